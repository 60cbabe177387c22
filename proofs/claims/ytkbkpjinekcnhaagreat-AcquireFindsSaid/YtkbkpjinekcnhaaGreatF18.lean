/- Texts of the proof, part 18: a second reading of the lowered code, proved sound, and what the functions compute. -/
import Derived.Test.YtkbkpjinekcnhaaGreatF17
set_option linter.unusedSimpArgs false
set_option linter.unusedVariables false
set_option maxRecDepth 20000
set_option maxHeartbeats 4000000
namespace Go.Ae
variable {C : Ctx} {h h' H h0 : Heap} {v vp : AV} {p : PlanP} {w w' : World} {env : Env} {kp : Keep} {ops : Array Oper} {i m j sz u : Nat} {l : List Int} {s : List (Int × Int)} {prn d b f a : Int} {cs vs : List AV} {nid : Option Nat} {o : Oper} {P : Program}
open Go.Conc
def jq9(C:Ctx)(gw:Nat)(first args cap:List AV)(ic:Nat)(h:Heap)(p:AProm):Prop:=
 ∀(B:Nat) (kp:Keep) (env:Env) (w:World),Rel C (kp.or kas) env h w->B<=w.heap.size->(∀r,r<w.heap.size->kp.no r)->kp.hide (env ic).blk->(∀v∈first++args++cap,v.bel h.ok)->
  JW C.P (env ic).blk (p.prom C.lk B) kp (born C.P {target:=.fn (.func (C.lk gw)) (cap.map (AV.val C.lk env)).toArray,args:=((first++args).map (AV.val C.lk env)).toArray}) w
section
variable {C : Ctx} {extra : Keep} {nt : Nat} {E : Ent}
theorem jsM{ops:Array Oper}{o:Oper}{dst:Option Nat}{f:AOpd}{xs:List AOpd}(h:jar C.P C.inv nt ops o={dst:=dst,op:=.comm 0 (f::xs),guard:=none}):
  ∃c fo,o.op=.go c/\c.callee=.value fo/\lowerOpd C.inv fo=some f/\lowerOpds C.inv c.args.toList=some xs/\o.dst=dst/\dstOk nt o.dst=true/\o.guard=none:=by
 unfold jar at h;split at h
 ·rename_i aop g h1 h2 h3;simp only[AOper.mk.injEq]at h;obtain⟨hd,rfl,rfl⟩:=h;have hg:o.guard=none:=by
   cases hg:o.guard with
   |none=>rfl
   |some jw=>
    obtain⟨j,want⟩:=jw;rw[hg]at h3;simp only[jbO]at h3;split at h3<;>cases h3
  cases hop:o.op with
  |go c=>
   rw[hop]at h1;simp only[lowerOp]at h1;split at h1
   ·rename_i fo args hc ha;simp only[Option.map_eq_some_iff]at h1;obtain⟨f',hf,he⟩:=h1;cases he;exact⟨c,fo,rfl,hc,hf,ha,hd,h2,hg⟩
   ·cases h1
  | call c =>
   exfalso;rw[hop]at h1;have h1':jbc C.P C.inv c=some (.comm 0 (f::xs)):=h1;unfold jbc at h1';split at h1'
   ·split at h1'
    ·simp only[Option.map_eq_some_iff]at h1';obtain⟨_,_,h1'⟩:=h1';cases h1'
    ·unfold ja7 at h1'
     repeat' split at h1'
     all_goals first
      |(cases h1';done)
      |(simp only[Option.map_eq_some_iff]at h1';obtain⟨_,_,h1'⟩:=h1';cases h1';done)
    ·cases h1'
   ·cases h1'
  |makeFunc fn x y=>
   exfalso;rw[hop]at h1;cases fn<;>simp only[lowerOp]at h1;all_goals first|(cases h1;done)|((repeat' split at h1)<;>cases h1;done)
  |makeMap _ r=>exfalso;rw[hop]at h1;cases r<;>simp only[lowerOp,lowerMap]at h1<;>(repeat' split at h1)<;>cases h1
  |mapUpdate _ _ _ _=>exfalso;rw[hop]at h1;simp only[lowerOp,lowerMap]at h1;(repeat' split at h1)<;>first|(cases h1;done)|(simp only[Option.map_eq_some_iff]at h1;obtain⟨_,_,h1⟩:=h1;cases h1;done)
  |insert _ _ _ _=>exfalso;rw[hop]at h1;simp only[lowerOp,lowerMap]at h1;(repeat' split at h1)<;>first|(cases h1;done)|(simp only[Option.map_eq_some_iff]at h1;obtain⟨_,_,h1⟩:=h1;cases h1;done)
  |lookup _ _ _ _=>exfalso;rw[hop]at h1;simp only[lowerOp,lowerMap]at h1;(repeat' split at h1)<;>first|(cases h1;done)|(simp only[Option.map_eq_some_iff]at h1;obtain⟨_,_,h1⟩:=h1;cases h1;done)
  | _ =>
   exfalso;rw[hop]at h1
   first
    |(simp only[lowerOp]at h1;(repeat' split at h1)<;>first|(cases h1;done)|(simp only[Option.map_eq_some_iff]at h1;obtain⟨_,_,h1⟩:=h1;cases h1;done))
    |(unfold lowerOp at h1;simp only[jbF,jaL]at h1;(repeat' split at h1)<;>first|(cases h1;done)|(simp only[Option.map_eq_some_iff]at h1;obtain⟨_,_,h1⟩:=h1;cases h1;done))
 ·cases h
theorem jde(h:o.guard=none)(y:Nat->Option Bool):Region.wanted o y=true:=by simp[Region.wanted,h]
theorem Rel.frozen{kp ex':Keep}{env:Env}{h:Heap}{w:World}(R:Rel C (kp.or extra) env h w){c:Nat}(hc:c<w.heap.size)(hcd:∀i b,h.get i=some b->b.freeze≠.dead->(env i).blk≠c)
  (hno:∀r,ex'.no r->r<w.heap.size) (hhide:∀r,ex'.hide r->extra.hide r):Rel C ((kp.shared w.heap.size c).or ex') env h.freeze w:=by
 have hwr:∀b:ABlk,b.freeze.wr=false:=fun b=>by cases b<;>rfl
 have back:∀{i b'},h.freeze.get i=some b'->∃b,h.get i=some b/\b'=b.freeze:=by
  intro i b' hb;rw[jdR]at hb;cases hg:h.get i with
  |none=>rw[hg]at hb;cases hb
  |some b=>rw[hg]at hb;cases hb;exact⟨b,rfl,rfl⟩
 have live:∀b:ABlk,b.freeze≠.dead->b≠.dead:=fun b hb=>by rintro rfl;exact hb rfl
 refine⟨fun i b' hb'=>?_,fun i b' hb'=>?_,fun i j b' c' hb' _ _ hw=>?_,fun i b' hb'=>?_,fun i b' hb' hw=>?_,fun r x=>?_,fun i b' hb' hd x=>?_,fun r x=>?_⟩
 ·obtain⟨b,hb,_⟩:=back hb';exact R.lt i b hb
 ·obtain⟨b,hb,rfl⟩:=back hb';cases b with
  |cells vs wr u=>exact fun k v hk=>R.cell hb hk
  |_=>trivial
 ·obtain⟨b,hb,rfl⟩:=back hb';rw[hwr]at hw;cases hw
 ·obtain⟨b,hb,rfl⟩:=back hb';rw[jgQ];cases b with
  |cells vs wr u=>exact(R.bel i (.cells vs wr u) hb:_)
  |_=>trivial
 ·obtain⟨b,hb,rfl⟩:=back hb';rw[hwr]at hw;cases hw
 ·exact x.elim id (hno r)
 ·obtain⟨b,hb,rfl⟩:=back hb';rcases x with(x|x)|x
  ·exact R.hid i b hb (live b hd) (.inl x)
  ·exact hcd i b hb hd x
  ·exact R.hid i b hb (live b hd) (.inr (hhide _ x))
 ·rcases x with(x|rfl)|x
  ·exact R.hidLt r (.inl x)
  ·exact hc
  ·exact R.hidLt r (.inr (hhide _ x))
theorem put_h(st:St)(h:Heap)(d:Option Nat)(v:AV):(St.put {st with h:=h} d v).h=h:=by cases d<;>rfl
theorem je0(h:Heap):HLe h h.freeze:=⟨Nat.le_refl _,fun i _=>by rw[jdR];cases h.get i<;>rfl⟩
def jiH(g:Gh)(st:St)(ic:Nat)(p:AProm):Gh:=
 match g with
 |.idle=>.busy ic [p] st.h
 |.busy ic aps hs=>.busy ic (aps++[p]) hs
def wpGo(C:Ctx)(g:Gh)(fv:AV)(args:List AV)(dst:Option Nat)(K:Gh->St->Prop)(st:St):Prop:=
 match fv with
 | .func gw first cap => ∃ ic p, (match g with | .idle => st.h.get ic = some .chan | .busy ic' _ _ => ic = ic') /\ p.Ok /\ jq9 C gw first args cap ic st.h.freeze p /\
   K (jiH g st ic p) (St.put {st with h:=st.h.freeze} dst .undef)
 |_=>False
theorem om_go{g:Gh}{ops:Array Oper}{i:Nat}{o:Oper}{ph:Phase}{kp:Keep}{env:Env}{st:St}{a:Act}{w:World}{K:Gh->St->Prop}(S:GSim C extra nt E g ph kp env st a w)(ho:ops[i]? =some o){dst:Option Nat}{f:AOpd}{xs:List AOpd}
  (hl:jar C.P C.inv nt ops o={dst:=dst,op:=.comm 0 (f::xs),guard:=none}) (h:wpGo C g (f.ev st.t) (xs.map (·.ev st.t)) dst K st):
  OpM C.P ops i (fun ph' kp' a' w'=>∃g' env' st',GSim C extra nt E g' ph' kp' env' st' a' w'/\K g' st') ph kp a w:=by
 obtain⟨c,fo,hop,hcal,hf,hx,rfl,hd,hg⟩:=jsM hl;have hw:=jde hg (yielded ops a.tmps);unfold wpGo at h;split at h
 case h_2=>exact h.elim
 rename_i gw first cap hfv
 obtain⟨ic,p,hic,hpok,hW,hK⟩:=h
 -- what the state says of the operands
 have key:∀{keep:Keep},Sim C keep nt env st a w->∀v∈first++xs.map (·.ev st.t)++cap,v.bel st.h.ok:=by
  intro keep S v hv;have q:=jba S.opd hx;have e2:=S.opd fo f hf;rw[hfv]at e2;rcases List.mem_append.1 hv with hv|hv
  ·rcases List.mem_append.1 hv with hv|hv
   ·exact(ja9 _ _).1 e2.2.1 v hv
   ·exact q.2 v hv
  ·exact(ja9 _ _).1 e2.2.2 v hv
 have run:∀{keep:Keep},Sim C keep nt env st a w->∀w1,(execOp a.eval o).run C.P w1=.ok (.spawn {target:=.fn (.func (C.lk gw)) (cap.map (AV.val C.lk env)).toArray,args:=((first++xs.map (·.ev st.t)).map (AV.val C.lk env)).toArray}) w1/\(execOp a.eval o).events C.P w1 #[]= #[]:=by
  intro keep S w1;have q:=jba S.opd hx;have e1:c.args.map a.eval=((xs.map (·.ev st.t)).map (AV.val C.lk env)).toArray:=by rw[<-q.1,<-jc3]
  have e2:=S.opd fo f hf;rw[hfv]at e2;have e3:=e2.1;simp only[AV.val,jbn]at e3;constructor
  ·simp only[execOp,hop,resolve,hcal,Deferred.ofValue,e1,e3,Sem.run_bind,Sem.run_pure,Result.andThen_ok];simp
  ·simp only[execOp,hop,resolve,hcal,Deferred.ofValue,e1,e3,Sem.events_bind,Sem.events_pure,Sem.run_pure,Result.evThen_ok]
 have step:∀{keep:Keep},Sim C keep nt env st a w->∀(b:Frame) (rest:List Nat) (k:List Item) (cs:List Frame),b.kind≠.early->∀w1,stepG C.P true (G (b.atR a (.inRegion ops (i::rest)::k)) cs) w1=
   .spawn (G (b.atR (a.put o.dst undef) (.inRegion ops rest::k)) cs) (born C.P {target:=.fn (.func (C.lk gw)) (cap.map (AV.val C.lk env)).toArray,args:=((first++xs.map (·.ev st.t)).map (AV.val C.lk env)).toArray}) w1 #[]:=by
  intro keep S b rest k cs hb w1;obtain⟨h1,h2⟩:=run S w1;rw[jrZ ho hw (fun c' e=>by rw[hop]at e;cases e) hb h1 rfl];simp only[evs,h2,seen_none]
 have undefv:(AV.undef).val C.lk env=undef:=rfl;intro Fin pr b rest k cs hro hb hk;cases g with
 | idle =>
  obtain⟨rfl,hS,hs⟩:=S;have hic:st.h.get ic=some .chan:=hic;by_cases hp:pr
  ·exact .inr hp
  refine .inl (.spawn (env ic).blk (p.prom C.lk w.heap.size) rfl (.inl ⟨rfl,fun x=>hs.rel.hid ic _ hic (by simp) (.inl x),fun x=>hs.rel.hid ic _ hic (by simp) (.inl x),?_⟩) (fun kq w1 r=>⟨_,_,step hs b rest k cs hb w1,rfl,rfl⟩) (fun kq w1 g' ch r hst=>?_) (fun kq w1 g' ch r hst=>?_))
  ·exact hs.rel.blk ic _ hic
  ·rw[step hs b rest k cs hb w1]at hst;cases hst;obtain⟨r1,rfl⟩:=r.ofBoth;have s1:=hs.rely r1;have hcd:∀i b,st.h.get i=some b->b.freeze≠.dead->(env i).blk≠(env ic).blk:=fun i b hi hbd=>s1.rel.disj ic i _ b hic hi (fun e=>by subst e;rw[hic]at hi;cases hi;exact hbd rfl) rfl (by rintro rfl;exact hbd rfl);have RF:=s1.rel.frozen (s1.rel.lt ic _ hic) hcd (ex':=kas) (fun _ h=>h.elim) (fun _ h=>h.elim);exact hW w.heap.size _ env w1 RF r1.size (fun r hr=>hr) (.inr rfl) (by rw[jgQ];exact key hs)
  ·rw [step hs b rest k cs hb w1] at hst;cases hst;obtain ⟨r1, rfl⟩ := r.ofBoth;have s1 := hs.rely r1;have hcd : ∀ i b, st.h.get i = some b -> b.freeze ≠ .dead -> (env i).blk ≠ (env ic).blk := fun i b hi hbd => s1.rel.disj ic i _ b hic hi (fun e => by subst e; rw [hic] at hi; cases hi; exact hbd rfl) rfl (by rintro rfl; exact hbd rfl);have RF := s1.rel.frozen (s1.rel.lt ic _ hic) hcd (ex' := extra.below w.heap.size) (fun r h => h.elim (fun h => s1.rel.keepLt r (.inr h)) fun h => Nat.lt_of_lt_of_le h r1.size) (fun _ h => h);have s2 := s1.put' hd (v := .undef) RF (kam _ _) (je0 _).grow trivial;have hltc : (env ic).blk < w.heap.size := hs.rel.lt ic _ hic
   have hg':GSim C extra nt E (jiH .idle st ic p) (some ((env ic).blk,[p.prom C.lk w.heap.size])) ((kp.wider w.heap.size w1.heap.size).shared w1.heap.size (env ic).blk) env (St.put {st with h:=st.h.freeze} o.dst .undef) (a.put o.dst undef) w1:=
    ⟨_,_,kp,env,w,rfl,hS,s2,by simp,hic,rfl,rfl,fun q hq=>by rw[List.mem_singleton]at hq;subst hq;exact hpok,kam _ _,by rw[put_h];exact je0 _,fun r hr=>Nat.lt_of_lt_of_le hr r1.size,.inr rfl,fun r x=>.inl (.inl x),
     fun r x=>by
      rcases x with(x|x)|x
      ·exact .inl x
      ·exact .inr (.inr x.1)
      ·exact .inr (.inl x),
     fun r hr hn _=>r1.row r hr hn,r1.size,r1.os,r1.tape,r1.output⟩
   exact(hk _ _ _ _ ⟨_,env,_,hg',hK⟩).resolve_right hp
 | busy ic' aps hs =>
  obtain⟨c0,ps,kps,envs,ws,rfl,B⟩:=S;have hic:ic=ic':=hic;subst hic;have hne:ps≠[]:=by rw[B.hps];intro e;exact B.ne (List.map_eq_nil_iff.1 e)
  have hcc:(env ic).blk=c0:=by rw[B.ext ic (by simp[Heap.ok,B.chan]),B.hc]
  by_cases hp:pr
  ·exact .inr hp
  refine .inl (.spawn c0 (p.prom C.lk ws.heap.size) rfl (.inr ⟨hne,rfl⟩) (fun kq w1 r=>⟨_,_,step B.sim b rest k cs hb w1,rfl,rfl⟩) (fun kp1 w1 g' ch r hst=>?_) (fun kp1 w1 g' ch r hst=>?_))
  ·rw[step B.sim b rest k cs hb w1]at hst;cases hst;have B1:=B.rely r;have s1:=B1.sim;have hcd:∀i b,st.h.get i=some b->b.freeze≠.dead->(env i).blk≠c0:=fun i b hi hbd e=>s1.rel.hid i b hi (by rintro rfl;exact hbd rfl) (.inl (by rw[e];exact B1.hidec));have RF:=s1.rel.frozen (s1.rel.hidLt _ (.inl B1.hidec)) hcd (ex':=kas) (fun _ h=>h.elim) (fun _ h=>h.elim);have:=hW ws.heap.size _ env w1 RF B1.size (fun r hr=>hr) (.inr hcc) (by rw[jgQ];exact key B.sim);rw[hcc]at this;exact this
  ·rw [step B.sim b rest k cs hb w1] at hst;cases hst;have B1 := B.rely r;have s1 := B1.sim;have hcd : ∀ i b, st.h.get i = some b -> b.freeze ≠ .dead -> (env i).blk ≠ c0 := fun i b hi hbd e => s1.rel.hid i b hi (by rintro rfl; exact hbd rfl) (.inl (by rw [e]; exact B1.hidec));have RF := s1.rel.frozen (s1.rel.hidLt _ (.inl B1.hidec)) hcd (ex' := extra.below ws.heap.size) (fun r h => s1.rel.keepLt r (.inr h)) (fun _ h => h);have s2 := s1.put' hd (v := .undef) RF (kam _ _) (je0 _).grow trivial;have hg' : GSim C extra nt E (jiH (.busy ic aps hs) st ic p) (some (c0, ps ++ [p.prom C.lk ws.heap.size])) (kp1.shared w1.heap.size c0) env (St.put { st with h := st.h.freeze } o.dst .undef) (a.put o.dst undef) w1 :=
    ⟨_,_,kps,envs,ws,rfl,B1.snap,s2,by simp,B1.chan,B1.hc,by rw[B1.hps];simp,fun q hq=>by
      rcases List.mem_append.1 hq with hq|hq
      ·exact B1.ok q hq
      ·rw[List.mem_singleton]at hq;subst hq;exact hpok,
     B1.ext,by rw[put_h];exact B1.hle.trans (je0 _),fun r hr=>Nat.lt_of_lt_of_le hr B1.size,.inl B1.hidec,fun r x=>.inl (B1.hide r x),
     fun r x=>by
      rcases x with x|x
      ·exact B1.hide' r x
      ·exact .inr (.inl x),
     B1.rows,B1.size,B1.os,B1.tape,B1.output⟩
   exact(hk _ _ _ _ ⟨_,env,_,hg',hK⟩).resolve_right hp
end
end Go.Ae
namespace Go.Ae
variable {C : Ctx} {h h' H h0 : Heap} {v vp : AV} {p : PlanP} {w w' : World} {env : Env} {kp : Keep} {ops : Array Oper} {i m j sz u : Nat} {l : List Int} {s : List (Int × Int)} {prn d b f a : Int} {cs vs : List AV} {nid : Option Nat} {o : Oper} {P : Program}
open Go.Conc
section
variable {C : Ctx} {extra : Keep} {nt : Nat} {E : Ent}
theorem jpq{ops:Array Oper}{o:Oper}{dst:Option Nat}{x:AOpd}(h:jar C.P C.inv nt ops o={dst:=dst,op:=.comm 1 [x],guard:=none}):
  ∃t ch d e z,o.op=.recv t ch false/\C.P.underlying t=some (.chan d e)/\zeroT C.P e=some z/\lowerOpd C.inv ch=some x/\o.dst=dst/\dstOk nt o.dst=true/\o.guard=none:=by
 unfold jar at h;split at h
 ·rename_i aop g h1 h2 h3;simp only[AOper.mk.injEq]at h;obtain⟨hd,rfl,rfl⟩:=h;have hg:o.guard=none:=by
   cases hg:o.guard with
   |none=>rfl
   |some jw=>
    obtain⟨j,want⟩:=jw;rw[hg]at h3;simp only[jbO]at h3;split at h3<;>cases h3
  cases hop:o.op with
  |recv t ch comma=>
   rw[hop]at h1;simp only[lowerOp]at h1;split at h1
   ·rename_i d e x' ht hx;simp only[Option.map_eq_some_iff]at h1;obtain⟨z,hz,he⟩:=h1;cases he;exact⟨t,ch,d,e,z,rfl,ht,hz,hx,hd,h2,hg⟩
   ·cases h1
  | call c =>
   exfalso;rw[hop]at h1;have h1':jbc C.P C.inv c=some (.comm 1 [x]):=h1;unfold jbc at h1';split at h1'
   ·split at h1'
    ·simp only[Option.map_eq_some_iff]at h1';obtain⟨_,_,h1'⟩:=h1';cases h1'
    ·unfold ja7 at h1'
     repeat' split at h1'
     all_goals first
      |(cases h1';done)
      |(simp only[Option.map_eq_some_iff]at h1';obtain⟨_,_,h1'⟩:=h1';cases h1';done)
    ·cases h1'
   ·cases h1'
  |makeFunc fn x y=>
   exfalso;rw[hop]at h1;cases fn<;>simp only[lowerOp]at h1;all_goals first|(cases h1;done)|((repeat' split at h1)<;>cases h1;done)
  |makeMap _ r=>exfalso;rw[hop]at h1;cases r<;>simp only[lowerOp,lowerMap]at h1<;>(repeat' split at h1)<;>cases h1
  |mapUpdate _ _ _ _=>exfalso;rw[hop]at h1;simp only[lowerOp,lowerMap]at h1;(repeat' split at h1)<;>first|(cases h1;done)|(simp only[Option.map_eq_some_iff]at h1;obtain⟨_,_,h1⟩:=h1;cases h1;done)
  |insert _ _ _ _=>exfalso;rw[hop]at h1;simp only[lowerOp,lowerMap]at h1;(repeat' split at h1)<;>first|(cases h1;done)|(simp only[Option.map_eq_some_iff]at h1;obtain⟨_,_,h1⟩:=h1;cases h1;done)
  |lookup _ _ _ _=>exfalso;rw[hop]at h1;simp only[lowerOp,lowerMap]at h1;(repeat' split at h1)<;>first|(cases h1;done)|(simp only[Option.map_eq_some_iff]at h1;obtain⟨_,_,h1⟩:=h1;cases h1;done)
  | _ =>
   exfalso;rw[hop]at h1
   first
    |(simp only[lowerOp]at h1;(repeat' split at h1)<;>first|(cases h1;done)|(simp only[Option.map_eq_some_iff]at h1;obtain⟨_,_,h1⟩:=h1;cases h1;done))
    |(unfold lowerOp at h1;simp only[jbF,jaL]at h1;(repeat' split at h1)<;>first|(cases h1;done)|(simp only[Option.map_eq_some_iff]at h1;obtain⟨_,_,h1⟩:=h1;cases h1;done))
 ·cases h
theorem Rel.less{keep keep':Keep}{env:Env}{h:Heap}{w w':World}(R:Rel C keep env h w)(hno:∀r,keep'.no r->keep.no r)(hhide:∀r,keep'.hide r->keep.hide r)(hsz:w'.heap.size=w.heap.size)
  (hrow:∀r,r<w.heap.size->¬keep.hide r->w'.heap[r]? =w.heap[r]?):Rel C keep' env h w':=by
 refine⟨fun i b hi=>by rw[hsz];exact R.lt i b hi,fun i b hi=>?_,R.disj,R.bel,fun i b hi hw x=>R.kept i b hi hw (hno _ x),fun r x=>by rw[hsz];exact R.keepLt r (hno r x),fun i b hi hd x=>R.hid i b hi hd (hhide _ x),fun r x=>by rw[hsz];exact R.hidLt r (hhide r x)⟩;by_cases hd:b=.dead
 ·subst hd;trivial
 ·exact(R.blk i b hi).mono (kam h env) (R.bel i b hi) (hrow _ (R.lt i b hi) (R.hid i b hi hd))
theorem Rel.view{keep:Keep}{env:Env}{h:Heap}{w:World}(R:Rel C keep env h w)(e:EB){vs:List AV}(hlt:e.blk<w.heap.size)(hh:¬keep.hide e.blk)(hw:∀i b,h.get i=some b->b.wr=true->(env i).blk≠e.blk)
  (hv:∀v∈vs,v.bel fun _=>False) (hc:∀k v,vs[k]? =some v->w.cell? ⟨e.blk,e.sh+k,none⟩=some (v.val C.lk (fun _=>e))):Rel C keep (updE env h.size e) (h.push (.cells vs false 0)) w:=by
 have X:Ext h env (updE env h.size e):=jbY (h.wf _ (Nat.le_refl _)) env e;have hself:updE env h.size e h.size=e:=by simp[updE]
 have hold:∀i b,h.get i=some b->updE env h.size e i=env i:=fun i b hb=>X i (by simp[Heap.ok,hb]);refine⟨fun i b hi=>?_,fun i b hi=>?_,fun i j b c hi hj hij hwr hcd=>?_,fun i b hi=>?_,fun i b hi hwr x=>?_,R.keepLt,fun i b hi hd x=>?_,R.hidLt⟩;all_goals rw[kap]at hi
 ·by_cases ei:i=h.size
  ·rw[ei,hself];exact hlt
  ·rw[if_neg ei]at hi;rw[hold i b hi];exact R.lt i b hi
 ·by_cases ei:i=h.size
  ·rw[if_pos ei]at hi;cases hi;rw[ei,hself];intro k v hk;rw[hc k v hk];congr 1;exact jes (fun _ h=>h.elim) v (hv v (List.mem_of_getElem? hk))
  ·rw[if_neg ei]at hi;rw[hold i b hi];exact(R.blk i b hi).mono X (R.bel i b hi) rfl
 ·rw[kap]at hj;by_cases ei:i=h.size
  ·rw[if_pos ei]at hi;cases hi;cases hwr
  ·rw[if_neg ei]at hi;rw[hold i b hi];by_cases ej:j=h.size
   ·rw[ej,hself];exact fun x=>hw i b hi hwr x.symm
   ·rw[if_neg ej]at hj;rw[hold j c hj];exact R.disj i j b c hi hj hij hwr hcd
 ·by_cases ei:i=h.size
  ·rw[if_pos ei]at hi;cases hi;exact fun v hvm=>bel_mono (fun _ h=>h.elim) v (hv v hvm)
  ·rw[if_neg ei]at hi;exact kao (fun j hj=>jgg.2 (.inr hj)) (R.bel i b hi)
 ·by_cases ei:i=h.size
  ·rw[if_pos ei]at hi;cases hi;cases hwr
  ·rw[if_neg ei]at hi;rw[hold i b hi]at x;exact R.kept i b hi hwr x
 ·by_cases ei:i=h.size
  ·rw[ei,hself]at x;exact hh x
  ·rw[if_neg ei]at hi;rw[hold i b hi]at x;exact R.hid i b hi hd x
theorem Rel.land{keep:Keep}{env:Env}{h:Heap}{w:World}(R:Rel C keep env h w){p:AProm}(hp:p.Ok){B:Nat}{T:Nat->Prop}{v:Value}{w0:World}(hΦ:p.prom C.lk B v w0 T)
  (hT:∀r,T r->r<w.heap.size/\¬keep.hide r/\(∀i b,h.get i=some b->b.wr=true->(env i).blk≠r)/\w.heap[r]? =w0.heap[r]?):
  ∃env',Rel C keep env' (p.land h) w/\Ext h env env'/\HLe h (p.land h)/\v=(p.av h.size).val C.lk env'/\(p.av h.size).bel (p.land h).ok:=by
 obtain⟨e,rfl,hΦ⟩:=hΦ;unfold AProm.land;cases hb:p.blk with
 |none=>
  refine⟨env,R,kam _ _,kax _,?_,hp.bel _ _ fun x=>absurd hb x⟩;rw[hp.shift C.lk h.size env];exact jes (fun _ h=>h.elim) _ (hp.bel 0 (fun _=>False) fun x=>absurd hb x)
 |some vs=>
  rw[hb]at hΦ;obtain⟨h1,h2,h3,h4⟩:=hΦ;obtain⟨t1,t2,t3,t4⟩:=hT e.blk ((h3 _).2 rfl);refine⟨updE env h.size e,R.view e t1 t2 t3 (hp.cells vs hb) (fun k v hk=>?_),jbY (h.wf _ (Nat.le_refl _)) env e,jjP (n:=none) rfl rfl _,?_,hp.bel _ _ fun _=>jgg.2 (.inl rfl)⟩
  ·rw[<-h4 k v hk];exact World.cell?_of_block (w:=w0) (w':=w) (a:=⟨e.blk,e.sh+k,none⟩) t4
  ·rw[hp.shift _ h.size];simp[updE]
theorem jcB{hs:Heap}{ic:Nat}{b:ABlk}(h1:(hs.thaw ic h).get i=some b):i<h.size/\((i<hs.size/\((i=ic/\b=.dead)\/(i≠ic/\hs.get i=some b)))\/(hs.size<=i/\∃b',h.get i=some b'/\b=if b'.wr then b' else .dead)):=by
 unfold Heap.thaw at h1;dsimp only at h1;split at h1
 ·rename_i hlt;refine⟨hlt,?_⟩;split at h1
  ·rename_i h2;split at h1
   ·rename_i e;cases h1;exact .inl ⟨h2,.inl ⟨e,rfl⟩⟩
   ·rename_i e;exact .inl ⟨h2,.inr ⟨e,h1⟩⟩
  ·rename_i h2;simp only[Option.map_eq_some_iff]at h1;obtain⟨b',hb',e⟩:=h1;exact .inr ⟨by omega,b',hb',e.symm⟩
 ·cases h1
theorem Busy.thaw{ic:Nat}{aps:List AProm}{hs:Heap}{c:Nat}{ps:List Prom}{kps:Keep}{envs:Env}{ws:World}{kp:Keep}{env:Env}{st:St}{a:Act}{w W:World}(B:Busy C extra nt E ic aps hs c ps kps envs ws kp env st a w)
  {T:Nat->Prop} (hT:∀r,T r->ws.heap.size<=r) (hsz:W.heap.size=w.heap.size) (hos:W.os=w.os) (htp:W.tape=w.tape) (hout:W.output=w.output) (hrow:∀r,r≠c->W.heap[r]? =w.heap[r]?):
  Snap C extra E ⟨kps.no,fun r=>kp.hide r/\¬T r⟩ env (hs.thaw ic st.h) W/\HLe st.h (hs.thaw ic st.h)/\∀i b,(hs.thaw ic st.h).get i=some b->b.wr=true->¬kp.hide (env i).blk:=by
 have R0:=B.snap.rel;have R1:=B.sim.rel;have hss:=B.size;have envO:∀{i b},hs.get i=some b->env i=envs i:=fun{i b} hb=>B.ext i (by simp[Heap.ok,hb])
 -- of an old block that is live
 have old:∀{i b},i≠ic->hs.get i=some b->b≠.dead->(env i).blk<ws.heap.size/\¬kps.hide (env i).blk/\(env i).blk≠c:=by
  intro i b hne hb hd;rw[envO hb];refine⟨R0.lt i b hb,fun x=>R0.hid i b hb hd (.inl x),?_⟩;rw[B.hc];exact R0.disj ic i _ b B.chan hb (Ne.symm hne) rfl hd
 have oldH:∀{i b},i≠ic->hs.get i=some b->b≠.dead->¬kp.hide (env i).blk:=by
  intro i b hne hb hd x;obtain⟨o1,o2,o3⟩:=old hne hb hd;rcases B.hide' _ x with y|y|y
  ·exact o2 y
  ·exact o3 y
  ·omega
 have oldW:∀{i b},i≠ic->hs.get i=some b->b≠.dead->W.heap[(env i).blk]? =ws.heap[(env i).blk]? :=by
  intro i b hne hb hd;obtain⟨o1,o2,o3⟩:=old hne hb hd;rw[hrow _ o3,B.rows _ o1 o2 o3]
 -- of a new one that may be written
 have new:∀{i b},hs.size<=i->st.h.get i=some b->b.wr=true->ws.heap.size<=(env i).blk/\¬kp.hide (env i).blk/\(env i).blk≠c/\b≠.dead:=by
  intro i b hi hb hw;have hd:b≠.dead:=by rintro rfl;cases hw
  have hh:¬kp.hide (env i).blk:=fun x=>R1.hid i b hb hd (.inl x);refine⟨?_,hh,fun e=>hh (by rw[e];exact B.hidec),hd⟩;rcases Nat.lt_or_ge (env i).blk ws.heap.size with x|x
  ·exact absurd (.inr (.inr x)) (R1.kept i b hb hw)
  ·exact x
 have okT:∀i,st.h.ok i->(hs.thaw ic st.h).ok i:=by
  intro i hi;have hlt:=kaA hi;simp only[Heap.ok,Heap.thaw,if_pos hlt];by_cases h2:i<hs.size
  ·rw[if_pos h2];by_cases e:i=ic
   ·rw[if_pos e];rfl
   ·rw[if_neg e,<-B.hle.same i h2];exact hi
  ·rw[if_neg h2];simp only[Heap.ok]at hi;simpa using hi
 have hleT:HLe st.h (hs.thaw ic st.h):=by
  refine⟨Nat.le_refl _,fun i hi=>?_⟩;cases hg:st.h.get i with
  |some b=>have:=okT i (by simp[Heap.ok,hg]);simpa[Heap.ok]using this
  | none =>
   show((hs.thaw ic st.h).get i).isSome=false;cases ht:(hs.thaw ic st.h).get i with
   |none=>rfl
   | some b =>
    exfalso;obtain⟨_,⟨h2,h3⟩|⟨_,b',hb',_⟩⟩:=jcB ht
    ·have hsame:=B.hle.same i h2;rw[hg]at hsame;rcases h3 with⟨rfl,_⟩|⟨_,h3⟩
     ·rw[B.chan]at hsame;cases hsame
     ·rw[h3]at hsame;cases hsame
    ·rw[hg]at hb';cases hb'
 have okS:∀i,hs.ok i->(hs.thaw ic st.h).ok i:=fun i hi=>okT i (B.hle.ok hi);have hR:Rel C (Keep.or ⟨kps.no,fun r=>kp.hide r/\¬T r⟩ extra) env (hs.thaw ic st.h) W:=by
  refine⟨fun i b hi=>?_,fun i b hi=>?_,fun i j b d hi hj hij hw hd=>?_,fun i b hi=>?_,fun i b hi hw x=>?_,fun r x=>?_,fun i b hi hd x=>?_,fun r x=>?_⟩
  ·rw[hsz];obtain⟨_,⟨h2,h3⟩|⟨_,b',hb',_⟩⟩:=jcB hi
   ·rcases h3 with⟨rfl,_⟩|⟨_,h3⟩
    ·rw[envO B.chan];exact Nat.lt_of_lt_of_le (R0.lt _ _ B.chan) hss
    ·rw[envO h3];exact Nat.lt_of_lt_of_le (R0.lt _ _ h3) hss
   ·exact R1.lt i b' hb'
  ·obtain⟨_,⟨h2,h3⟩|⟨hi2,b',hb',e⟩⟩:=jcB hi
   ·rcases h3 with⟨_,rfl⟩|⟨hne,h3⟩
    ·trivial
    ·by_cases hd:b=.dead
     ·subst hd;trivial
     ·have:=oldW hne h3 hd;rw[envO h3]at this|-;exact(R0.blk i b h3).mono B.ext (R0.bel i b h3) this
   ·by_cases hw:b'.wr=true
    ·rw[if_pos hw]at e;subst e;obtain⟨n1,n2,n3,n4⟩:=new hi2 hb' hw;exact(R1.blk i b hb').mono (kam _ _) (R1.bel i b hb') (hrow _ n3)
    ·rw[if_neg hw]at e;subst e;trivial
  ·obtain⟨_,⟨h2,h3⟩|⟨hi2,b',hb',e⟩⟩:=jcB hi
   ·rcases h3 with⟨_,rfl⟩|⟨hne,h3⟩
    ·cases hw
    ·have hbd:b≠.dead:=by rintro rfl;cases hw
     obtain⟨o1,_,_⟩:=old hne h3 hbd;obtain⟨_,⟨k2,k3⟩|⟨hj2,d',hd',e2⟩⟩:=jcB hj
     ·rcases k3 with⟨_,rfl⟩|⟨hnj,k3⟩
      ·exact absurd rfl hd
      ·rw[envO h3,envO k3];exact R0.disj i j b d h3 k3 hij hw hd
     ·by_cases hw2:d'.wr=true
      ·have:=(new hj2 hd' hw2).1;omega
      ·rw[if_neg hw2]at e2;exact absurd e2 hd
   ·by_cases hw1:b'.wr=true
    ·rw[if_pos hw1]at e;subst e;have n1:=(new hi2 hb' hw1).1;obtain⟨_,⟨k2,k3⟩|⟨hj2,d',hd',e2⟩⟩:=jcB hj
     ·rcases k3 with⟨_,rfl⟩|⟨hnj,k3⟩
      ·exact absurd rfl hd
      ·have:=(old hnj k3 hd).1;omega
     ·by_cases hw2:d'.wr=true
      ·rw[if_pos hw2]at e2;subst e2;exact R1.disj i j b d hb' hd' hij hw hd
      ·rw[if_neg hw2]at e2;exact absurd e2 hd
    ·rw[if_neg hw1]at e;subst e;cases hw
  ·obtain⟨_,⟨h2,h3⟩|⟨hi2,b',hb',e⟩⟩:=jcB hi
   ·rcases h3 with⟨_,rfl⟩|⟨hne,h3⟩
    ·trivial
    ·exact kao okS (R0.bel i b h3)
   ·by_cases hw:b'.wr=true
    ·rw[if_pos hw]at e;subst e;exact kao okT (R1.bel i b hb')
    ·rw[if_neg hw]at e;subst e;trivial
  ·obtain⟨_,⟨h2,h3⟩|⟨hi2,b',hb',e⟩⟩:=jcB hi
   ·rcases h3 with⟨_,rfl⟩|⟨hne,h3⟩
    ·cases hw
    ·have hbd:b≠.dead:=by rintro rfl;cases hw
     rw[envO h3]at x;exact R0.kept i b h3 hw x
   ·by_cases hw1:b'.wr=true
    ·rw[if_pos hw1]at e;subst e;obtain⟨n1,n2,_,_⟩:=new hi2 hb' hw1;have:=R0.keepLt _ x;omega
    ·rw[if_neg hw1]at e;subst e;cases hw
  ·rw[hsz];exact Nat.lt_of_lt_of_le (R0.keepLt r x) hss
  ·obtain⟨_,⟨h2,h3⟩|⟨hi2,b',hb',e⟩⟩:=jcB hi
   ·rcases h3 with⟨_,rfl⟩|⟨hne,h3⟩
    ·exact hd rfl
    ·rcases x with x|x
     ·exact oldH hne h3 hd x.1
     ·rw[envO h3]at x;exact R0.hid i b h3 hd (.inr x)
   ·by_cases hw1:b'.wr=true
    ·rw[if_pos hw1]at e;subst e;rcases x with x|x
     ·exact R1.hid i b hb' hd (.inl x.1)
     ·exact R1.hid i b hb' hd (.inr x)
    ·rw[if_neg hw1]at e;exact hd e
  ·rw[hsz];rcases x with x|x
   ·exact R1.hidLt r (.inl x.1)
   ·exact Nat.lt_of_lt_of_le (R0.hidLt r (.inr x)) hss
 have hse:=B.snap.since;have hcw:E.w.heap.size<=ws.heap.size:=hse.size;refine⟨⟨hR,⟨?_,?_,?_,?_,fun r hr he hn=>?_,fun r x=>?_,fun r he x=>?_⟩,B.snap.ext.trans B.snap.hle B.ext,(B.snap.hle.trans B.hle).trans hleT,B.snap.no,B.snap.no'⟩,hleT,fun i b hi hw x=>?_⟩
 ·rw[hsz];omega
 ·rw[hos,B.os,hse.os]
 ·rw[htp,B.tape,hse.tape]
 ·rw[hout,B.output,hse.output]
 ·have hnk:¬kps.hide r:=fun x=>(hse.hide' r he x).elim hn fun y=>by omega
  have hrc:r≠c:=fun e=>R0.kept ic _ B.chan rfl (.inr (by rw[<-B.hc,<-e];exact he));rw[hrow r hrc,B.rows r (by omega) hnk hrc,hse.block r hr he hn]
 ·have y:=hse.hide r x;refine⟨B.hide r y,fun t=>?_⟩;have:=hT r t;have:=R0.hidLt r (.inl y);omega
 ·rcases B.hide' r x.1 with y|y|y
  ·exact hse.hide' r he y
  ·exact absurd (.inr (by rw[<-B.hc,<-y];exact he)) (R0.kept ic _ B.chan rfl)
  ·exact .inr (by omega)
 ·obtain⟨_,⟨h2,h3⟩|⟨hi2,b',hb',e⟩⟩:=jcB hi
  ·rcases h3 with⟨_,rfl⟩|⟨hne,h3⟩
   ·cases hw
   ·exact oldH hne h3 (by rintro rfl;cases hw) x
  ·by_cases hw1:b'.wr=true
   ·exact(new hi2 hb' hw1).2.1 x
   ·rw[if_neg hw1]at e;subst e;cases hw
end
end Go.Ae
namespace Go.Ae
variable {C : Ctx} {h h' H h0 : Heap} {v vp : AV} {p : PlanP} {w w' : World} {env : Env} {kp : Keep} {ops : Array Oper} {i m j sz u : Nat} {l : List Int} {s : List (Int × Int)} {prn d b f a : Int} {cs vs : List AV} {nid : Option Nat} {o : Oper} {P : Program}
open Go.Conc
section
variable {C : Ctx} {extra : Keep} {nt : Nat} {E : Ent}
def jof(g:Gh)(ch:AV)(dst:Option Nat)(K:Gh->St->Prop)(st:St):Prop:=
 match g with
 |.idle=>False
 | .busy ic aps hs => ch = .chan ic /\ ∀ A p B, aps = A ++ p :: B ->
   (A++B≠[]->K (.busy ic (A++B) hs) (St.put {st with h:=p.land st.h} dst (p.av st.h.size)))/\
   (A++B=[]->K .idle (St.put {st with h:=p.land (hs.thaw ic st.h)} dst (p.av st.h.size)))
theorem jl6{α β:Type}{f:α->β}{l:List α}{A B:List β}{x:β}(h:l.map f=A++x::B):∃A' y B',l=A'++y::B'/\A'.map f=A/\f y=x/\B'.map f=B:=by
 obtain⟨l1,l2,rfl,h1,h2⟩:=List.map_eq_append_iff.1 h;obtain⟨y,B',rfl,h3,h4⟩:=List.map_eq_cons_iff.1 h2;exact⟨l1,y,B',rfl,h1,h3,h4⟩
theorem jjF{b:Frame}{a:Act}{ops:Array Oper}{i:Nat}{rest:List Nat}{k:List Item}{cs:List Frame}{o:Oper}{v:Value}(ho:ops[i]? =some o):
  Conc.served (G (b.atR a (.inRegion ops (i::rest)::k)) cs) v=G (b.atR (a.put o.dst v) (.inRegion ops rest::k)) cs:=by
 have:(b.atR a (.inRegion ops (i::rest)::k)).finish v=b.atR (a.put o.dst v) (.inRegion ops rest::k):=by rw[Frame.finish_atR,ho];rfl
 simp only[Conc.served,G,this]
theorem jua{g:Gh}{ops:Array Oper}{i:Nat}{o:Oper}{ph:Phase}{kp:Keep}{env:Env}{st:St}{a:Act}{w:World}{K:Gh->St->Prop}(S:GSim C extra nt E g ph kp env st a w)(ho:ops[i]? =some o){dst:Option Nat}{x:AOpd}
  (hl:jar C.P C.inv nt ops o={dst:=dst,op:=.comm 1 [x],guard:=none}) (h:jof g (x.ev st.t) dst K st):
  OpM C.P ops i (fun ph' kp' a' w'=>∃g' env' st',GSim C extra nt E g' ph' kp' env' st' a' w'/\K g' st') ph kp a w:=by
 obtain⟨t,ch,d,e,z,hop,ht,hz,hx,rfl,hd,hg⟩:=jpq hl;have hw:=jde hg (yielded ops a.tmps);cases g with
 |idle=>exact h.elim
 | busy ic aps hs =>
  obtain⟨hch,h⟩:=h;obtain⟨c0,ps,kps,envs,ws,rfl,B⟩:=S;have hcc:(env ic).blk=c0:=by rw[B.ext ic (by simp[Heap.ok,B.chan]),B.hc]
  have hev:a.eval ch=.chan (some c0):=by
   have:=(B.sim.opd ch x hx).1;rw[hch]at this;simp only[AV.val,hcc]at this;exact this
  have hzr:∀w1:World,(zeroValue e).run C.P w1=.ok (z.val C.lk env) w1:=fun w1=>(jla (w:=w1) (env:=env) C.lk (fun _=>True) hz).1;have run:∀w1,(execOp a.eval o).run C.P w1=.ok (.comm #[rcase c0 (z.val C.lk env)] true (.recv false)) w1/\(execOp a.eval o).events C.P w1 #[]= #[]:=by
   intro w1;have hu:=run_underlying ht w1;constructor
   ·simp only[execOp,hop,Sem.run_bind,hu,Result.andThen_ok,hzr,hev,Sem.run_pure,rcase]
   ·simp only[execOp,hop,Sem.events_bind,hu,Result.evThen_ok,hzr,events_underlying,events_zeroValue,Sem.events_pure]
  intro Fin pr b rest k cs hro hb hk;have step:∀w1,stepG C.P true (G (b.atR a (.inRegion ops (i::rest)::k)) cs) w1=.comm (G (b.atR a (.inRegion ops (i::rest)::k)) cs) #[rcase c0 (z.val C.lk env)] true (.recv false) w1 #[]:=by
   intro w1;obtain⟨h1,h2⟩:=run w1;rw[jp0 ho hw (fun c' e=>by rw[hop]at e;cases e) hb h1];simp only[evs,h2,seen_none]
  have hne:ps≠[]:=by rw[B.hps];intro e;exact B.ne (List.map_eq_nil_iff.1 e)
  by_cases hp:pr
  ·exact .inr hp
  refine .inl (.recv (z.val C.lk env) rfl hne (fun kp1 w1 r=>step w1) fun A Φ B' v T kp1 w1 s r e r1 hΦ hT=>?_);rw[jjF ho];rw[B.hps]at e;obtain⟨A1,p,B1,rfl,hA,rfl,hB⟩:=jl6 e;have BB:=B.rely r1;have hpok:p.Ok:=B.ok p (by simp);obtain⟨hk1,hk2⟩:=h A1 p B1 rfl;have hrow:∀q,q≠c0->(w1.setChan c0 0 #[] false s r false).heap[q]? =w1.heap[q]? :=fun q hq=>by
   simp only[World.setChan];exact Array.getElem?_setIfInBounds_ne (Ne.symm hq)
  have hsz:(w1.setChan c0 0 #[] false s r false).heap.size=w1.heap.size:=by simp[World.setChan]
  have hTB:∀q,T q->ws.heap.size<=q:=by
   intro q hq;obtain⟨e0,_,hm⟩:=hΦ;cases hb':p.blk with
   |none=>rw[hb']at hm;exact absurd hq (hm q)
   |some vs=>rw[hb']at hm;rw[(hm.2.2.1 q).1 hq];exact hm.1
  by_cases hlast:A1++B1=[]
  ·-- the last one
   have hAB:A++B'=[]:=by rw[<-hA,<-hB];obtain⟨h1,h2⟩:=List.append_eq_nil_iff.1 hlast;rw[h1,h2];rfl
   obtain⟨hS,hL,hwrT⟩:=BB.thaw (W:=w1.setChan c0 0 #[] false s r false) hTB hsz rfl rfl rfl hrow;obtain⟨env',R',X',L',hv,hbel⟩:=hS.rel.land hpok hΦ fun q hq=>by
    obtain⟨t1,t2,t3⟩:=hT q hq;refine⟨by rw[hsz];exact t1,fun y=>?_,fun i b hi hwr e=>hwrT i b hi hwr (by rw[e];exact t2),hrow q t3⟩;rcases y with y|y
    ·exact y.2 hq
    ·have:=BB.snap.rel.hidLt q (.inr y);have:=hTB q hq;omega
   have s2:=BB.sim.put' hd (h':=p.land (hs.thaw ic st.h)) R' (fun j hj=>X' j (hL.ok hj)) (hL.trans L').grow hbel;rw[size_thaw]at hv hbel s2;rw[<-hv]at s2;have hS2:Snap C extra E _ env' (p.land (hs.thaw ic st.h)) _:=hS.keepJ (kaI _ _ _) R' X' L';have:=hk none ⟨kps.no,fun q=>kp1.hide q/\¬T q⟩ (a.put o.dst v) _ ⟨.idle,env',_,⟨rfl,by rw[put_h];exact hS2,s2⟩,hk2 hlast⟩;have j:=this.resolve_right hp;have j2:=j.idx c0 rfl;rw[hAB];have hke:(Keep.both ⟨kps.no,fun q=>kp1.hide q/\¬T q⟩)=kp1.take T (([]:List Prom)=[]):=kaT (fun q=>by simp[Keep.both,Keep.take]) (fun q=>by simp[Keep.both,Keep.take])
   rw[hke]at j2;exact j2
  ·have hAB:A++B'≠[]:=by
    rw[<-hA,<-hB];intro h0;obtain⟨h1,h2⟩:=List.append_eq_nil_iff.1 h0;exact hlast (by rw[List.map_eq_nil_iff.1 h1,List.map_eq_nil_iff.1 h2];rfl)
   have hno:∀q,(kp1.take T (A++B'=[])).no q↔kp1.no q/\¬T q:=fun q=>by simp[Keep.take,hAB]
   have hhi:∀q,(kp1.take T (A++B'=[])).hide q↔kp1.hide q/\¬T q:=fun q=>by simp[Keep.take]
   have R1:Rel C ((kp1.take T (A++B'=[])).or (extra.below ws.heap.size)) env st.h (w1.setChan c0 0 #[] false s r false):=
    BB.sim.rel.less (fun q y=>y.imp (fun y=>((hno q).1 y).1) id) (fun q y=>y.imp (fun y=>((hhi q).1 y).1) id) hsz fun q _ hn=>hrow q fun e=>hn (.inl (by rw[e];exact BB.hidec))
   obtain⟨env',R',X',L',hv,hbel⟩:=R1.land hpok hΦ fun q hq=>by
    obtain⟨t1,t2,t3⟩:=hT q hq;refine⟨by rw[hsz];exact t1,fun y=>?_,fun i b hi hwr e=>BB.sim.rel.hid i b hi (by rintro rfl;cases hwr) (.inl (by rw[e];exact t2)),hrow q t3⟩;rcases y with y|y
    ·exact((hhi q).1 y).2 hq
    ·have:=BB.snap.rel.hidLt q (.inr y);have:=hTB q hq;omega
   have s2:=BB.sim.put' hd (h':=p.land st.h) R' X' L'.grow hbel;rw[<-hv]at s2;have hg':GSim C extra nt E (.busy ic (A1++B1) hs) (some (c0,A++B')) (kp1.take T (A++B'=[])) env' (St.put {st with h:=p.land st.h} o.dst (p.av st.h.size)) (a.put o.dst v) (w1.setChan c0 0 #[] false s r false):=
    ⟨_,_,kps,envs,ws,rfl,BB.snap,s2,hlast,BB.chan,BB.hc,by rw[List.map_append,hA,hB],fun q hq=>B.ok q (by
      rcases List.mem_append.1 hq with hq|hq
      ·simp[hq]
      ·simp[hq]),
     BB.ext.trans BB.hle X',by rw[put_h];exact BB.hle.trans L',fun q hq=>(hno q).2 ⟨BB.no q hq,fun t=>by have:=hTB q t;omega⟩,(hhi _).2 ⟨BB.hidec,fun t=>(hT _ t).2.2 rfl⟩,
     fun q y=>(hhi q).2 ⟨BB.hide q y,fun t=>by have:=hTB q t;have:=BB.snap.rel.hidLt q (.inl y);omega⟩,fun q y=>BB.hide' q ((hhi q).1 y).1,
     fun q hq hn hc=>by rw[hrow q hc,BB.rows q hq hn hc],by rw[hsz];exact BB.size,BB.os,BB.tape,BB.output⟩
   exact(hk _ _ _ _ ⟨_,env',_,hg',hk1 hlast⟩).resolve_right hp
end
end Go.Ae
namespace Go.Ae
variable {C : Ctx} {h h' H h0 : Heap} {v vp : AV} {p : PlanP} {w w' : World} {env : Env} {kp : Keep} {ops : Array Oper} {i m j sz u : Nat} {l : List Int} {s : List (Int × Int)} {prn d b f a : Int} {cs vs : List AV} {nid : Option Nat} {o : Oper} {P : Program}
open Go.Conc
def WM(C:Ctx)(nt:Nat)(ac:ACode)(Q:Out->Gh->St->Prop)(g:Gh)(st:St):Prop:=
 ∀(c:Code),jad C.P C.inv nt c=ac->∀extra E ph kp env a w,GSim C extra nt E g ph kp env st a w->
  WpM C.P c (fun o ph' kp' a' w'=>∃g' env' st',GSim C extra nt E g' ph' kp' env' st' a' w'/\Q o g' st') ph kp a w
def WMo(C:Ctx)(nt:Nat)(aops:List AOper)(K:Gh->St->Prop)(g:Gh)(st:St):Prop:=
 ∀(ops:Array Oper) (k:Nat),k<=ops.size->(ops.toList.drop k).map (jar C.P C.inv nt ops)=aops->∀extra E ph kp env a w,GSim C extra nt E g ph kp env st a w->
  OpsM C.P ops (List.range' k (ops.size-k)) (fun ph' kp' a' w'=>∃g' env' st',GSim C extra nt E g' ph' kp' env' st' a' w'/\K g' st') ph kp a w
section
variable {C : Ctx} {nt : Nat} {Q Q' : Out -> Gh -> St -> Prop} {g : Gh} {st : St}
theorem kaN{ac:ACode}(h:∀ph,wp (C.at ph) nt none ac (fun o st'=>Q o g st') st):WM C nt ac Q g st:=by
 intro c hc extra E ph kp env a w S;subst hc;exact jsK S (h ph)
theorem jra{inv:FuncId->Option Nat}{c:Code}{x y:ACode}(h:jad P inv nt c=.seq x y):∃a b,c=.seq a b/\jad P inv nt a=x/\jad P inv nt b=y:=by
 cases c with
 |seq a b=>simp only[jad,ACode.seq.injEq]at h;exact⟨a,b,rfl,h.1,h.2⟩
 |region id ops d=>cases d<;>simp only[jad]at h<;>(repeat' split at h)<;>cases h
 |cond c a b=>simp only[jad]at h;split at h<;>cases h
 |rangeFunc f ps a b=>simp only[jad]at h;(repeat' split at h)<;>cases h
 |_=>simp[jad]at h
theorem jrb{inv:FuncId->Option Nat}{c:Code}{id:Nat}{x:ACode}(h:jad P inv nt c=.block id x):∃a,c=.block id a/\jad P inv nt a=x:=by
 cases c with
 |block i a=>simp only[jad,ACode.block.injEq]at h;obtain⟨rfl,h⟩:=h;exact⟨a,rfl,h⟩
 |region id ops d=>cases d<;>simp only[jad]at h<;>(repeat' split at h)<;>cases h
 |cond c a b=>simp only[jad]at h;split at h<;>cases h
 |rangeFunc f ps a b=>simp only[jad]at h;(repeat' split at h)<;>cases h
 |_=>simp[jad]at h
theorem jsN{inv:FuncId->Option Nat}{c:Code}{x:ACode}(h:jad P inv nt c=.loop x):∃a,c=.loop a/\jad P inv nt a=x:=by
 cases c with
 |loop a=>simp only[jad,ACode.loop.injEq]at h;exact⟨a,rfl,h⟩
 |region id ops d=>cases d<;>simp only[jad]at h<;>(repeat' split at h)<;>cases h
 |cond c a b=>simp only[jad]at h;split at h<;>cases h
 |rangeFunc f ps a b=>simp only[jad]at h;(repeat' split at h)<;>cases h
 |_=>simp[jad]at h
theorem jjG{inv:FuncId->Option Nat}{c:Code}{l:List AOper}(h:jad P inv nt c=.region l):∃id ops,c=.region id ops false/\ops.toList.map (jar P inv nt ops)=l:=by
 cases c with
 |region id ops d=>
  cases d with
  |false=>simp only[jad,ACode.region.injEq]at h;exact⟨id,ops,rfl,h⟩
  |true=>simp only[jad]at h;(repeat' split at h)<;>cases h
 |cond c a b=>simp only[jad]at h;split at h<;>cases h
 |rangeFunc f ps a b=>simp only[jad]at h;(repeat' split at h)<;>cases h
 |_=>simp[jad]at h
theorem ka7{x y:ACode}(h:WM C nt x (fun o g' st'=>match o with|.normal=>WM C nt y Q g' st'|o=>Q o g' st') g st):WM C nt (.seq x y) Q g st:=by
 intro c hc extra E ph kp env a w S;obtain⟨x',y',rfl,hx,hy⟩:=jra hc;refine juI (jiE (h x' hx extra E ph kp env a w S) ?_);rintro o ph' kp' a' w' ⟨g',env',st',S',q⟩;cases o with
 |normal=>exact q y' hy extra E ph' kp' env' a' w' S'
 |exit id=>exact⟨g',env',st',S',q⟩
 |ret=>exact⟨g',env',st',S',q⟩
theorem ka4{id:Nat}{x:ACode}(h:WM C nt x (fun o g' st'=>match o with|.exit id'=>if id'=id then Q .normal g' st' else Q (.exit id') g' st'|o=>Q o g' st') g st):WM C nt (.block id x) Q g st:=by
 intro c hc extra E ph kp env a w S;obtain⟨x',rfl,hx⟩:=jrb hc;refine jsJ (jiE (h x' hx extra E ph kp env a w S) ?_);rintro o ph' kp' a' w' ⟨g',env',st',S',q⟩;cases o with
 |normal=>exact⟨g',env',st',S',q⟩
 |ret=>exact⟨g',env',st',S',q⟩
 |exit id'=>
  dsimp only at q|-;by_cases e:id'=id
  ·rw[if_pos e]at q|-;exact⟨g',env',st',S',q⟩
  ·rw[if_neg e]at q|-;exact⟨g',env',st',S',q⟩
theorem kbB{x:ACode}(I:Nat->Gh->St->Prop){j0:Nat}(h0:I j0 g st)(round:∀j g' st',I j g' st'->WM C nt x (fun o g2 st2=>match o with|.normal=>∃i,i<j/\I i g2 st2|o=>Q o g2 st2) g' st'):WM C nt (.loop x) Q g st:=by
 intro c hc extra E ph kp env a w S;obtain⟨x',rfl,hx⟩:=jsN hc;refine jt9 (fun j ph kp a w=>∃g' env' st',GSim C extra nt E g' ph kp env' st' a w/\I j g' st') ⟨g,env,st,S,h0⟩ ?_;rintro j ph kp a w ⟨g',env',st',S',hI⟩;refine jiE (round j g' st' hI x' hx extra E ph kp env' a w S') ?_;rintro o ph' kp' a' w' ⟨g2,env2,st2,S2,q⟩;cases o with
 |normal=>obtain⟨i,hi,q⟩:=q;exact⟨i,hi,g2,env2,st2,S2,q⟩
 |exit id=>exact⟨g2,env2,st2,S2,q⟩
 |ret=>exact⟨g2,env2,st2,S2,q⟩
theorem ka6{l:List AOper}(h:WMo C nt l (Q .normal) g st):WM C nt (.region l) Q g st:=by
 intro c hc extra E ph kp env a w S;obtain⟨id,ops,rfl,hl⟩:=jjG hc;refine jq8 ?_;rw[List.range_eq_range'];exact h ops 0 (Nat.zero_le _) (by simpa using hl) extra E ph kp env a w S
theorem kbi{K:Gh->St->Prop}(h:K g st):WMo C nt [] K g st:=by
 intro ops k hk hl extra E ph kp env a w S;have:ops.size-k=0:=by
  have:=congrArg List.length hl;simp at this;omega
 rw[this];exact juJ ⟨g,env,st,S,h⟩
theorem jeJ{k:Nat}{f:Oper->AOper}{o:AOper}{os:List AOper}(h:(ops.toList.drop k).map f=o::os):∃x,ops[k]? =some x/\f x=o/\(ops.toList.drop (k+1)).map f=os/\k+1<=ops.size/\ops.size-k=(ops.size-(k+1))+1:=by
 have hlt:k<ops.size:=by
  rcases Nat.lt_or_ge k ops.size with x|x
  ·exact x
  ·rw[List.drop_of_length_le (by simpa using x)]at h;cases h
 rw[List.drop_eq_getElem_cons (by simpa using hlt),List.map_cons,List.cons.injEq]at h;exact⟨ops[k],Array.getElem?_eq_getElem hlt,by simpa using h.1,h.2,hlt,by omega⟩
theorem kbK{K:Gh->St->Prop}{o:AOper}{os:List AOper}(hg:o.guard=none)(h:∀ph,wpOp (C.at ph) none o (fun st'=>WMo C nt os K g st') st):WMo C nt (o::os) K g st:=by
 intro ops k hk hl extra E ph kp env a w S;obtain⟨x,hx,he,htl,hk1,hsz⟩:=jeJ hl;rw[hsz,List.range'_succ];refine jns ?_;have hw:Region.wanted x (yielded ops a.tmps)=true:=by
  rcases jcy (P:=C.P) (inv:=C.inv) (nt:=nt) (ops:=ops) (o:=x)with⟨s,hs⟩|⟨g',hg',hge,_,_⟩
  ·exfalso;rw[<-he,hs]at h;exact jhZ (h ph)
  ·rw[he,hg]at hge;subst hge;refine jde ?_ _;cases hgx:x.guard with
   |none=>rfl
   |some jw=>
    obtain⟨j,want⟩:=jw;rw[hgx]at hg';simp only[jbO]at hg';split at hg'<;>cases hg'
 refine jiF (jsL S hx hw (by rw[he];exact h ph)) ?_;rintro ph' kp' a' w' ⟨g',env',st',S',q⟩;exact q ops (k+1) hk1 htl extra E ph' kp' env' a' w' S'
theorem kbV{K:Gh->St->Prop}{dst:Option Nat}{f:AOpd}{xs:List AOpd}{os:List AOper}(h:wpGo C g (f.ev st.t) (xs.map (·.ev st.t)) dst (WMo C nt os K) st):WMo C nt ({dst:=dst,op:=.comm 0 (f::xs),guard:=none}::os) K g st:=by
 intro ops k hk hl extra E ph kp env a w S;obtain⟨x,hx,he,htl,hk1,hsz⟩:=jeJ hl;rw[hsz,List.range'_succ];refine jns (jiF (om_go S hx he h) ?_);rintro ph' kp' a' w' ⟨g',env',st',S',q⟩;exact q ops (k+1) hk1 htl extra E ph' kp' env' a' w' S'
theorem kbI{K:Gh->St->Prop}{dst:Option Nat}{x:AOpd}{os:List AOper}(h:jof g (x.ev st.t) dst (WMo C nt os K) st):WMo C nt ({dst:=dst,op:=.comm 1 [x],guard:=none}::os) K g st:=by
 intro ops k hk hl extra E ph kp env a w S;obtain⟨o,hx,he,htl,hk1,hsz⟩:=jeJ hl;rw[hsz,List.range'_succ];refine jns (jiF (jua S hx he h) ?_);rintro ph' kp' a' w' ⟨g',env',st',S',q⟩;exact q ops (k+1) hk1 htl extra E ph' kp' env' a' w' S'
theorem jpr{gi:Nat}{b:ABody}(hbody:C.body gi=some b){args:List AV}(hargs:args.length<=b.ntmps){h:Heap}{Post:AV->Heap->Prop}
  (hwp:WM C b.ntmps b.code (fun o g st=>g=.idle/\retO b.res Post o st) .idle ⟨argT args,h,[]⟩):ACalls C.main0 gi args h Post:=by
 unfold Ctx.body jjN at hbody;split at hbody
 ·rename_i fn hf;split at hbody
  ·cases hbody
  ·rename_i hname;split at hbody
   ·rename_i c rs hc hrs;cases hbody;refine⟨?_,?_⟩
    ·intro args w;show(callFunc (C.lk gi) args).run C.P w=.ok (.enter (C.lk gi) args) w/\∀es,(callFunc (C.lk gi) args).events C.P w es=es;refine⟨by simp[callFunc,hf,hname,hc,mark],fun es=>?_⟩;simp[callFunc,Sem.events_bind,hf,hname,hc,Result.evThen]
    ·intro extra kp env w R0 hbel J hJ cs hk;have R:Rel C (kp.or extra) env h w:=⟨R0.1,R0.2,R0.3,R0.4,R0.5,R0.6,R0.7,R0.8⟩;have S:Sim C (kp.or extra) fn.ntmps env ⟨argT args,h,[]⟩ {tmps:=(args.map (AV.val C.lk env)).toArray++Array.replicate (fn.ntmps-(args.map (AV.val C.lk env)).toArray.size) undef,defers:=[]} w:=by
      have hsz:(args.map (AV.val C.lk env)).toArray.size=args.length:=by simp
      refine⟨?_,?_,?_,rfl,by simp,R⟩
      ·have:args.length<=fn.ntmps:=hargs;simp;omega
      ·intro s;rw[Array.getD_eq_getD_getElem?,Array.getElem?_append,hsz];simp only[argT,List.getD_eq_getElem?_getD];by_cases hs:s<args.length
       ·rw[if_pos hs];simp[hs]
       ·rw[if_neg hs,List.getElem?_eq_none (by omega)];simp only[Option.getD_none,Array.getElem?_replicate];split<;>rfl
      ·intro s;simp only[argT,List.getD_eq_getElem?_getD];cases hs:args[s]? with
       |none=>trivial
       |some v=>exact hbel v (List.mem_of_getElem? hs)
     let b:Frame:={(default:Frame)with fn:=C.lk gi,kind:=.normal,roundOf:=none}
     have henter:Frame.enter C.P (C.lk gi) (args.map (AV.val C.lk env)).toArray .normal=
       b.atR {tmps:=(args.map (AV.val C.lk env)).toArray++Array.replicate (fn.ntmps-(args.map (AV.val C.lk env)).toArray.size) undef,defers:=[]} [.code c]:=by
      simp[Frame.enter,Frame.atR,hf,hc,b]
     show J kp (G (Frame.enter C.P (C.lk gi) (args.map (AV.val C.lk env)).toArray .normal) cs) w;rw[henter];obtain⟨Fin,p,rfl⟩:=hJ;have hJ:C.main0.fam (MJ0 C.P Fin p):=⟨Fin,p,rfl⟩;have HS:GSim C extra fn.ntmps ⟨kp,env,h,w⟩ .idle none kp env ⟨argT args,h,[]⟩ {tmps:=(args.map (AV.val C.lk env)).toArray++Array.replicate (fn.ntmps-(args.map (AV.val C.lk env)).toArray.size) undef,defers:=[]} w:=
      ⟨rfl,⟨R,⟨Nat.le_refl _,rfl,rfl,rfl,fun _ _ _ _=>rfl,fun _ h=>h,fun _ _ h=>.inl h⟩,kam _ _,kax _,fun _ h=>h,fun _ h=>.inl h⟩,S⟩
     have H:=hwp c rfl extra ⟨kp,env,h,w⟩ none kp env _ w HS;refine H Fin p b [] cs rfl (by simp[b]) ?_;rintro o ph' kp' a' w' ⟨g',env',st',S',rfl,hret⟩;obtain⟨rfl,hSn,hs⟩:=S';have hKJ:KeepJ kp extra w kp' w':=⟨hSn.since.size,hSn.since.os,hSn.since.tape,hSn.since.output,hSn.since.block,hSn.no,hSn.no',hSn.since.hide,hSn.since.hide'⟩;have hX:Ext h env env':=hSn.ext;have hL:HLe h st'.h:=hSn.hle;have s0:Sim C.main0 (kp'.or extra) fn.ntmps env' st' a' w':=jl5 (ph:=none) hs;have fin:∀todo,(∃h1 vs,jbe st'.h st'.m=some h1/\resA st'.t h1 rs=some vs/\Post (retA vs) h1)->MJ0 C.P Fin p kp' (G {b.atR a' todo with mode:=.returning} cs) w':=by
      rintro todo ⟨h1,vs,hcm,hres,hP⟩;refine jeA (C:=C.main0) hJ st'.m rfl s0.defers s0.rel hcm fun kp1 w1 R1 K1=>?_;have hl1:=jd6 _ _ _ hcm;have hbel1:∀s,(st'.t s).bel h1.ok:=fun s=>bel_mono (fun i hi=>hl1.ok hi) _ (s0.bel s);have q:=jbS (C:=C.main0) (tmps:=a'.tmps) R1 s0.tmps hbel1 hrs hres;refine hk kp1 ((retA vs).val C.lk env') w1 _ ⟨env',_,h1,rfl,hP,R1,hKJ.trans K1,hX,hL.trans hl1,q.2⟩ ⟨rfl,rfl,rfl,rfl,fn,hf,fun kp2 w2 r2=>?_⟩;have R2:=R1.rely r2;exact⟨(jbS (C:=C.main0) (tmps:=a'.tmps) R2 s0.tmps hbel1 hrs hres).1,fun e he=>(je3 (C:=C.main0) (tmps:=a'.tmps) R2 s0.tmps hbel1 hrs hres e he).part⟩
     have un:∀{o},(∀id,o≠.exit id)->retO rs Post o st'->∃h1 vs,jbe st'.h st'.m=some h1/\resA st'.t h1 rs=some vs/\Post (retA vs) h1:=by
      intro o ho hr;have hr':match jbe st'.h st'.m with
       |some h1=>match resA st'.t h1 rs with
        |some vs=>Post (retA vs) h1
        |none=>False
       |none=>False:=by
       cases o with
       |exit id=>exact absurd rfl (ho id)
       |normal=>exact hr
       |ret=>exact hr
      split at hr'
      ·rename_i h1 e1;split at hr'
       ·rename_i vs e2;exact⟨h1,vs,e1,e2,hr'⟩
       ·exact hr'.elim
      ·exact hr'.elim
     cases o with
     |normal=>exact jeR.ctl rfl rfl (fun _=>jpZ rfl) (fin [] (un (by intro id h;cases h) hret))
     |ret=>exact fun k2=>jeR.ctl rfl rfl (fun _=>jtd rfl) (fin _ (un (by intro id h;cases h) hret))
     |exit id=>exact hret.elim
   ·cases hbody
 ·cases hbody
end
end Go.Ae
namespace Go.Ae
variable {C : Ctx} {h h' H h0 : Heap} {v vp : AV} {p : PlanP} {w w' : World} {env : Env} {kp : Keep} {ops : Array Oper} {i m j sz u : Nat} {l : List Int} {s : List (Int × Int)} {prn d b f a : Int} {cs vs : List AV} {nid : Option Nat} {o : Oper} {P : Program}
open Go.Conc
structure WIn (C:Ctx) (nt:Nat) (ic c B:Nat) (kp:Keep) (env:Env) (st:St) (a:Act) (w:World) (b:Frame) (cs:List Frame):Prop where
 sim:Sim C (kp.or kas) nt env st a w
 ok:st.h.ok ic
 hc:(env ic).blk=c
 no:∀r,r<B->kp.no r
 ro:b.roundOf=none
 kind:b.kind≠.early
 quit:∀a':Act,a'.defers=[]->∃n,QuitsIn C.P n (G (b.atR a' []) cs)
def WW(C:Ctx)(p:AProm)(ic nt:Nat)(ac:ACode)(st:St):Prop:=
 ∀code,jad C.P C.inv nt code=ac->∀c B kp env a w b cs,WIn C nt ic c B kp env st a w b cs->JW C.P c (p.prom C.lk B) kp (G (b.atR a [.code code]) cs) w
def WWo(C:Ctx)(p:AProm)(ic nt:Nat)(aops:List AOper)(st:St):Prop:=
 ∀(ops:Array Oper) (k:Nat),k<=ops.size->(ops.toList.drop k).map (jar C.P C.inv nt ops)=aops->∀c B kp env a w b cs,WIn C nt ic c B kp env st a w b cs->
  JW C.P c (p.prom C.lk B) kp (G (b.atR a [.inRegion ops (List.range' k (ops.size-k))]) cs) w
def jtp(p:AProm)(ic:Nat)(x y:AOpd)(st:St):Prop:=
 st.m=[]/\x.ev st.t=.chan ic/\∃n,y.ev st.t=p.av n/\∀vs,p.blk=some vs->∃u,st.h.get n=some (.cells vs true u)
section
variable {C : Ctx} {p : AProm} {ic nt : Nat} {st : St}
theorem jog{c:Nat}{Φ:Prom}{keep:Keep}{a:Act}(h:Sim C keep nt env st a w):Sim (C.work c Φ) keep nt env st a w:=⟨h.size,h.tmps,h.bel,h.defers,h.marks,h.rel.1,h.rel.2,h.rel.3,h.rel.4,h.rel.5,h.rel.6,h.rel.7,h.rel.8⟩
theorem jnt{c:Nat}{Φ:Prom}{keep:Keep}{a:Act}(h:Sim (C.work c Φ) keep nt env st a w):Sim C keep nt env st a w:=⟨h.size,h.tmps,h.bel,h.defers,h.marks,h.rel.1,h.rel.2,h.rel.3,h.rel.4,h.rel.5,h.rel.6,h.rel.7,h.rel.8⟩
theorem WIn.far{c B:Nat}{Φ:Prom}{kp':Keep}{env':Env}{st':St}{a a':Act}{b:Frame}{cs:List Frame}(I:WIn C nt ic c B kp env st a w b cs)(F:Far (C.work c Φ) kas nt kp env st w kp' env' st' a' w'):WIn C nt ic c B kp' env' st' a' w' b cs:=
 ⟨jnt F.sim,F.grow.same _ I.ok,by rw[F.ext ic I.ok];exact I.hc,fun r hr=>F.keepJ.no r (I.no r hr),I.ro,I.kind,I.quit⟩
theorem kbM{x y:ACode}(h:∀c Φ,wp (C.work c Φ) nt none x (fun o st'=>o=.normal/\WW C p ic nt y st') st):WW C p ic nt (.seq x y) st:=by
 intro code hcode c B kp env a w b cs I;obtain⟨x',y',rfl,hx,hy⟩:=jra hcode;have low:jad (C.work c (p.prom C.lk B)).P (C.work c (p.prom C.lk B)).inv nt x'=x:=hx;refine(jfF C.P c (p.prom C.lk B)).ctl rfl rfl (fun _=>jpW) ?_;have H:=jeP (C:=C.work c (p.prom C.lk B)) (extra:=kas) (nt:=nt) default none (jco _ none) (jcV _ none) x' (fun o st'=>o=.normal/\WW C p ic nt y st') kp env st a w (by rw[low];exact h c _) (jog I.sim) (by intro l hl;cases hl);refine H _ (.inl rfl) b [.code y'] cs I.ro I.kind ?_;rintro o kp' a' w' ⟨env',st',F,_,_,rfl,hW⟩;exact hW y' hy c B kp' env' a' w' b cs (I.far F)
theorem kbD{l:List AOper}(h:WWo C p ic nt l st):WW C p ic nt (.region l) st:=by
 intro code hcode c B kp env a w b cs I;obtain⟨id,ops,rfl,hl⟩:=jjG hcode;refine(jfF C.P c (p.prom C.lk B)).ctl rfl rfl (fun _=>jhU) ?_;rw[List.range_eq_range'];exact h ops 0 (Nat.zero_le _) (by simpa using hl) c B kp env a w b cs I
theorem jrc{x:Oper}{o:AOper}{C':Ctx}{K:St->Prop}(he:jar C'.P C'.inv nt ops x=o)(hg:o.guard=none)(h:wpOp C' nid o K st)(y:Nat->Option Bool):Region.wanted x y=true:=by
 rcases jcy (P:=C'.P) (inv:=C'.inv) (nt:=nt) (ops:=ops) (o:=x)with⟨s,hs⟩|⟨g',hg',hge,_,_⟩
 ·exfalso;rw[<-he,hs]at h;exact jhZ h
 ·rw[he,hg]at hge;subst hge;refine jde ?_ _;cases hgx:x.guard with
  |none=>rfl
  |some jw=>
   obtain⟨j,want⟩:=jw;rw[hgx]at hg';simp only[jbO]at hg';split at hg'<;>cases hg'
theorem kaW{o:AOper}{os:List AOper}(hg:o.guard=none)(h:∀c Φ,wpOp (C.work c Φ) none o (fun st'=>WWo C p ic nt os st') st):WWo C p ic nt (o::os) st:=by
 intro ops k hk hl c B kp env a w b cs I;obtain⟨x,hx,he,htl,hk1,hsz⟩:=jeJ hl;rw[hsz,List.range'_succ];have he':jar (C.work c (p.prom C.lk B)).P (C.work c (p.prom C.lk B)).inv nt ops x=o:=he;have hw:=jrc (C':=C.work c (p.prom C.lk B)) he' hg (h c _) (yielded ops a.tmps);have H:=jfS (C:=C.work c (p.prom C.lk B)) (extra:=kas) (jog I.sim) none hx hw he' (h c _);refine H _ (.inl rfl) b _ [] cs I.ro I.kind ?_;rintro kp' a' w' ⟨env',st',F,_,_,q⟩;exact q ops (k+1) hk1 htl c B kp' env' a' w' b cs (I.far F)
theorem jps{ops:Array Oper}{o:Oper}{dst:Option Nat}{x y:AOpd}(h:jar C.P C.inv nt ops o={dst:=dst,op:=.comm 2 [x,y],guard:=none}):
  ∃ch v,o.op=.send ch v/\lowerOpd C.inv ch=some x/\lowerOpd C.inv v=some y/\o.dst=dst/\o.guard=none:=by
 unfold jar at h;split at h
 ·rename_i aop g h1 h2 h3;simp only[AOper.mk.injEq]at h;obtain⟨hd,rfl,rfl⟩:=h;have hg:o.guard=none:=by
   cases hg:o.guard with
   |none=>rfl
   |some jw=>
    obtain⟨j,want⟩:=jw;rw[hg]at h3;simp only[jbO]at h3;split at h3<;>cases h3
  cases hop:o.op with
  |send ch v=>
   rw[hop]at h1;simp only[lowerOp]at h1;split at h1
   ·rename_i c' x' hc hx;cases h1;exact⟨ch,v,rfl,hc,hx,hd,hg⟩
   ·cases h1
  | call c =>
   exfalso;rw[hop]at h1;have h1':jbc C.P C.inv c=some (.comm 2 [x,y]):=h1;unfold jbc at h1';split at h1'
   ·split at h1'
    ·simp only[Option.map_eq_some_iff]at h1';obtain⟨_,_,h1'⟩:=h1';cases h1'
    ·unfold ja7 at h1'
     repeat' split at h1'
     all_goals first
      |(cases h1';done)
      |(simp only[Option.map_eq_some_iff]at h1';obtain⟨_,_,h1'⟩:=h1';cases h1';done)
    ·cases h1'
   ·cases h1'
  |makeFunc fn x y=>
   exfalso;rw[hop]at h1;cases fn<;>simp only[lowerOp]at h1;all_goals first|(cases h1;done)|((repeat' split at h1)<;>cases h1;done)
  |makeMap _ r=>exfalso;rw[hop]at h1;cases r<;>simp only[lowerOp,lowerMap]at h1<;>(repeat' split at h1)<;>cases h1
  |mapUpdate _ _ _ _=>exfalso;rw[hop]at h1;simp only[lowerOp,lowerMap]at h1;(repeat' split at h1)<;>first|(cases h1;done)|(simp only[Option.map_eq_some_iff]at h1;obtain⟨_,_,h1⟩:=h1;cases h1;done)
  |insert _ _ _ _=>exfalso;rw[hop]at h1;simp only[lowerOp,lowerMap]at h1;(repeat' split at h1)<;>first|(cases h1;done)|(simp only[Option.map_eq_some_iff]at h1;obtain⟨_,_,h1⟩:=h1;cases h1;done)
  |lookup _ _ _ _=>exfalso;rw[hop]at h1;simp only[lowerOp,lowerMap]at h1;(repeat' split at h1)<;>first|(cases h1;done)|(simp only[Option.map_eq_some_iff]at h1;obtain⟨_,_,h1⟩:=h1;cases h1;done)
  | _ =>
   exfalso;rw[hop]at h1
   first
    |(simp only[lowerOp]at h1;(repeat' split at h1)<;>first|(cases h1;done)|(simp only[Option.map_eq_some_iff]at h1;obtain⟨_,_,h1⟩:=h1;cases h1;done))
    |(unfold lowerOp at h1;simp only[jbF,jaL]at h1;(repeat' split at h1)<;>first|(cases h1;done)|(simp only[Option.map_eq_some_iff]at h1;obtain⟨_,_,h1⟩:=h1;cases h1;done))
 ·cases h
theorem jpt(hp:p.Ok){ops:Array Oper}{i:Nat}{o:Oper}{dst:Option Nat}{x y:AOpd}(ho:ops[i]? =some o)(hl:jar C.P C.inv nt ops o={dst:=dst,op:=.comm 2 [x,y],guard:=none})(hS:jtp p ic x y st)
  {c B:Nat} {kp:Keep} {env:Env} {a:Act} {w:World} {b:Frame} {cs:List Frame} (I:WIn C nt ic c B kp env st a w b cs):JW C.P c (p.prom C.lk B) kp (G (b.atR a [.inRegion ops [i]]) cs) w:=by
 obtain⟨ch,v,hop,hx,hy,rfl,hg⟩:=jps hl;obtain⟨hm,hch,n,hv,hblk⟩:=hS;have hw:=jde hg (yielded ops a.tmps);have hev:a.eval ch=.chan (some c):=by
  have:=(I.sim.opd ch x hx).1;rw[hch]at this;simp only[AV.val,I.hc]at this;exact this
 have hvv:a.eval v=(p.av n).val C.lk env:=by rw[(I.sim.opd v y hy).1,hv]
 have hd0:a.defers=[]:=by rw[I.sim.defers,hm];rfl
 have step:∀w1,stepG C.P false (G (b.atR a [.inRegion ops [i]]) cs) w1=.comm (G (b.atR a [.inRegion ops [i]]) cs) #[scase c ((p.av n).val C.lk env) (.tuple #[])] true .send w1 #[]:=by
  intro w1;have h1:(execOp a.eval o).run C.P w1=.ok (.comm #[scase c ((p.av n).val C.lk env) (.tuple #[])] true .send) w1:=by
   simp only[execOp,hop,Sem.run_pure,hev,hvv,scase]
  have h2:(execOp a.eval o).events C.P w1 #[]= #[]:=by simp only[execOp,hop,Sem.events_pure]
  rw[jp0 ho hw (fun c' e=>by rw[hop]at e;cases e) I.kind h1];simp only[evs,h2,seen_none]
 obtain⟨m,hq⟩:=I.quit (a.put o.dst undef) (by cases o.dst<;>exact hd0);refine .send ((p.av n).val C.lk env) (.tuple #[]) (fun r=>p.blk≠none/\r=(env n).blk) (m+1) rfl (fun kp1 w1 _=>step w1) (fun kp1 w1 r=>?_) (fun r hr=>?_) ?_
 ·refine⟨env n,hp.shift _ _ _,?_⟩;have R1:=(I.sim.rely r).rel;cases hb:p.blk with
  |none=>exact fun r hr=>hr.1 rfl
  | some vs =>
   obtain⟨u,hu⟩:=hblk vs hb;have hk:¬kp.no (env n).blk:=fun x=>I.sim.rel.kept n _ hu rfl (.inl x);refine⟨?_,R1.lt n _ hu,fun r=>by simp,fun k v hkv=>?_⟩
   ·rcases Nat.lt_or_ge (env n).blk B with z|z
    ·exact absurd (I.no _ z) hk
    ·exact z
   ·rw[R1.cell hu hkv];congr 1;exact jes (fun _ h=>h.elim) v (hp.cells vs hb v (List.mem_of_getElem? hkv))
 ·obtain⟨hb,rfl⟩:=hr;cases hbb:p.blk with
  |none=>exact absurd hbb hb
  |some vs=>
   obtain⟨u,hu⟩:=hblk vs hbb;exact⟨I.sim.rel.lt n _ hu,fun x=>I.sim.rel.kept n _ hu rfl (.inl x)⟩
 ·rw[jjF ho];exact QuitsIn.ctl rfl (fun w=>jd4) hq
theorem kbH(hp:p.Ok){dst:Option Nat}{x y:AOpd}(h:jtp p ic x y st):WWo C p ic nt [{dst:=dst,op:=.comm 2 [x,y],guard:=none}] st:=by
 intro ops k hk hl c B kp env a w b cs I;obtain⟨o,ho,he,htl,hk1,hsz⟩:=jeJ hl;have h0:ops.size-(k+1)=0:=by
  have:=congrArg List.length htl;simp at this;omega
 rw[hsz,h0];exact jpt hp ho he h I
end
end Go.Ae
namespace Go.Ae
variable {C : Ctx} {h h' H h0 : Heap} {v vp : AV} {p : PlanP} {w w' : World} {env : Env} {kp : Keep} {ops : Array Oper} {i m j sz u : Nat} {l : List Int} {s : List (Int × Int)} {prn d b f a : Int} {cs vs : List AV} {nid : Option Nat} {o : Oper} {P : Program}
open Go.Conc
section
variable {C : Ctx} {p : AProm} {ic nt : Nat} {st : St}
def jhg(P:Program):Frame:={(default:Frame)with fn:=P.funcs.size,defers:=[],mode:=.panicking [goexitEntry]}
theorem jub{P:Program}{f:FuncId}{cap args:Array Value}{w:World}(h:∀zas w,(callFunc f zas).run P w=.ok (.enter f zas) w/\∀es,(callFunc f zas).events P w es=es):
  stepG P false (born P {target:=.fn (.func f) cap,args:=args}) w=.go (G (Frame.enter P f (args++cap) .deferred) [jhg P]) w #[]:=by
 have h1:(invoke (.fn (.func f) cap) args).run P w=.ok (.enter f (args++cap)) w:=by simp only[invoke];exact(h _ w).1
 have h2:(invoke (.fn (.func f) cap) args).events P w #[]= #[]:=by simp only[invoke];exact(h _ w).2 #[]
 simp[born,stepG,unwind,callDeferred,Sem.runT_eq,h1,h2,GStep.after,G,jhg,seen_none]
theorem jrd(P:Program):QuitsIn P 1 (G (jhg P) []):=by
 refine .inr ⟨rfl,{frame:=jhg P,callers:=[],status:=.finished,dying:=none},fun w=>?_,rfl⟩;have h:(default:Frame).todo=[]:=rfl;simp[G,jhg,stepG,unwind,Frame.catches,goexitEntry,h]
theorem juc{fn:Func}{b:Frame}{a:Act}(hf:P.funcs[b.fn]? =some fn)(hr:fn.results= #[])(hk:b.kind=.deferred)(hro:b.roundOf=none)(hd:a.defers=[]):∃n,QuitsIn P n (G (b.atR a []) [jhg P]):=by
 refine⟨3,QuitsIn.ctl rfl (fun w=>jpZ hro) ?_⟩;refine QuitsIn.ctl (g':=G (jhg P) []) rfl (fun w=>?_) (jrd P);have h1:=results_none hr a.tmps P w;have h2:=events_results_none (P:=P) (w:=w) hr a.tmps;simp[G,stepG,unwind,Frame.atR,hd,hf,Sem.runT_eq,h1,h2,doReturn,hk,GStep.after,jhg,goexitEntry,seen_none]
theorem jpu(hp:p.Ok){gw:Nat}{b:ABody}(hbody:C.body gw=some b)(hres:b.res=[]){first args cap:List AV}(hargs:(first++args++cap).length<=b.ntmps){h:Heap}(hic:h.ok ic)
  (hw:WW C p ic b.ntmps b.code ⟨argT (first++args++cap),h,[]⟩):jq9 C gw first args cap ic h p:=by
 intro B kp env w R hB hno hhide hbel;unfold Ctx.body jjN at hbody;split at hbody
 ·rename_i fn hf;split at hbody
  ·cases hbody
  ·rename_i hname;split at hbody
   ·rename_i c rs hc hrs;cases hbody;dsimp only at hres;subst hres;have hresults:fn.results= #[]:=by
     cases hl:fn.results.toList with
     |nil=>simpa using hl
     |cons r rs=>
      rw[hl]at hrs;unfold lowerRess at hrs;split at hrs<;>cases hrs
    have hent:∀zas w,(callFunc (C.lk gw) zas).run C.P w=.ok (.enter (C.lk gw) zas) w/\∀es,(callFunc (C.lk gw) zas).events C.P w es=es:=by
     intro zas w;refine⟨by simp[callFunc,hf,hname,hc,mark],fun es=>?_⟩;simp[callFunc,Sem.events_bind,hf,hname,hc,Result.evThen]
    have hcl:=jfF C.P (env ic).blk (p.prom C.lk B);refine hcl.go rfl fun kp1 w1 r=>⟨_,w1, #[],jub hent,rfl,kaz _ _,fun e he=>(by simp at he),?_⟩;have hvals:((first++args).map (AV.val C.lk env)).toArray++(cap.map (AV.val C.lk env)).toArray=((first++args++cap).map (AV.val C.lk env)).toArray:=by simp
    rw[hvals];have R1:=R.rely r;have S:Sim C (kp1.or kas) fn.ntmps env ⟨argT (first++args++cap),h,[]⟩ {tmps:=((first++args++cap).map (AV.val C.lk env)).toArray++Array.replicate (fn.ntmps-((first++args++cap).map (AV.val C.lk env)).toArray.size) undef,defers:=[]} w1:=by
     generalize first++args++cap=vs at hargs hbel|-
     have hsz:(vs.map (AV.val C.lk env)).toArray.size=vs.length:=by simp
     refine⟨?_,?_,?_,rfl,by simp,R1⟩
     ·have:vs.length<=fn.ntmps:=hargs;simp;omega
     ·intro s;rw[Array.getD_eq_getD_getElem?,Array.getElem?_append,hsz];simp only[argT,List.getD_eq_getElem?_getD];by_cases hs:s<vs.length
      ·rw[if_pos hs];simp[hs]
      ·rw[if_neg hs,List.getElem?_eq_none (by omega)];simp only[Option.getD_none,Array.getElem?_replicate];split<;>rfl
     ·intro s;simp only[argT,List.getD_eq_getElem?_getD];cases hs:vs[s]? with
      |none=>trivial
      |some v=>exact hbel v (List.mem_of_getElem? hs)
    let b:Frame:={(default:Frame)with fn:=C.lk gw,kind:=.deferred,roundOf:=none}
    have henter:Frame.enter C.P (C.lk gw) ((first++args++cap).map (AV.val C.lk env)).toArray .deferred=
      b.atR {tmps:=((first++args++cap).map (AV.val C.lk env)).toArray++Array.replicate (fn.ntmps-((first++args++cap).map (AV.val C.lk env)).toArray.size) undef,defers:=[]} [.code c]:=by
     simp[Frame.enter,Frame.atR,hf,hc,b]
    rw[henter];refine hw c rfl _ B kp1 env _ w1 b _ ⟨S,hic,rfl,fun q hq=>?_,rfl,by simp[b],fun a' ha=>juc hf hresults rfl rfl ha⟩;rw[r.eq];exact .inl (hno q (by omega))
   ·cases hbody
 ·cases hbody
end
end Go.Ae
namespace Go.Ae
variable {C : Ctx} {h h' H h0 : Heap} {v vp : AV} {p : PlanP} {w w' : World} {env : Env} {kp : Keep} {ops : Array Oper} {i m j sz u : Nat} {l : List Int} {s : List (Int × Int)} {prn d b f a : Int} {cs vs : List AV} {nid : Option Nat} {o : Oper} {P : Program}
theorem Has.work{T:List Nat}{c:Nat}{Φ:Prom}(h:Has C T):Has (C.work c Φ) T:=fun g hg b hb=>h g hg b hb
theorem Has.main0{T:List Nat}(h:Has C T):Has C.main0 T:=fun g hg b hb=>h g hg b hb
theorem Has.at{C:Ctx}{T:List Nat}(h:Has C T):∀ph,Has (C.at ph) T
 |none=>fun g hg b hb=>h g hg b hb
 |some _=>fun g hg b hb=>h g hg b hb
theorem kbN{n:Nat}(H:SL h sz v n cs)(K:KnownCap v):SL h.freeze sz v n cs:=by
 obtain⟨hl,hlt,⟨rfl,rfl⟩|⟨i,o,cp,vs,wr,u,rfl,hg,hle,hc,hcap⟩⟩:=H
 ·exact⟨hl,hlt,.inl ⟨rfl,rfl⟩⟩
 ·rcases K with K|⟨i',o',n',c',K⟩
  ·cases K
  ·cases K;exact⟨hl,hlt,.inr ⟨i,o,_,vs,false,u,rfl,by rw[jdR,hg];rfl,hle,hc,hcap⟩⟩
def fndC(i:Nat)(x:HitT)(c:Bool):List AV:=[.int .i64 (i:Nat),.int .i64 x.1,.int .i64 x.2.1,.int .i64 x.2.2.1,.int .i64 x.2.2.2,.bool c]
def fndP(i:Nat)(x:HitT)(c:Bool):AProm:=⟨fun _=>.agg (fndC i x c),none⟩
theorem fndP_ok(i:Nat)(x:HitT)(c:Bool):(fndP i x c).Ok:=
 ⟨fun lk n env=>rfl,fun n q hq=>by simp[fndP,fndC,AV.bel,kar],fun vs h=>by cases h⟩
theorem jud(hC:Has C TA){v vp:AV}{p:PlanP}{s:List (Int×Int)}{b sh prn f:Int}{m i:Nat}{c0 c1 c2 c3 c4 c5 c6 c7 ic:Nat}{x0 x1 x2 x3 x4 x5 x6 x7:Bool}{u0 u1 u2 u3 u4 u5 u6 u7:Nat}{h:Heap}(hs:SI h v s)(R:RI h vp p.prns)(A:AcOk p s prn)(g0:gErr b sh=0)(hf:0<=f/\f<=1048576)(hm:1<=m/\m<=16)
  (k0:h.get c0=some (.cells [v] x0 u0)) (k1:h.get c1=some (.cells [.int .i64 p.d,.int .i64 p.o,.int .i64 p.pb,.int .i64 p.w,.int .i64 p.mn,.int .i64 p.mx,.int .i64 p.nz,vp] x1 u1)) (k2:h.get c2=some (.cells [.int .i64 prn] x2 u2)) (k3:h.get c3=some (.cells [.int .i64 f] x3 u3)) (k4:h.get c4=some (.cells [.int .i64 (m:Nat)] x4 u4))
  (k5:h.get c5=some (.cells [.int .i64 b,.int .i64 sh] x5 u5)) (k6:h.get c6=some (.cells [.chan ic] x6 u6)) (k7:h.get c7=some (.cells [.int .i64 (i:Nat)] x7 u7)) (hic:h.ok ic):
  jq9 C 406 [] [] [.ptr c0 0,.ptr c1 0,.ptr c2 0,.ptr c3 0,.ptr c4 0,.ptr c5 0,.ptr c6 0,.ptr c7 0] ic h (fndP i (hitQ p s f m prn) (clmQ p sh s f m prn)):=by
 have hb:=A.hitB (f:=f) (m:=m);have dE:detErr p b sh prn=0:=by
  unfold detErr askErr;rw[if_pos A.err,g0,if_pos rfl,if_pos A.hin]
 have cE:jg9 p b sh prn (hitQ p s f m prn).2.2.1 m=.tuple [.bool (clmQ p sh s f m prn),.int .i64 0]:=by
  unfold jg9;rw[if_pos dE,if_neg (by omega)];rfl
 have W:∀c Φ,(∀H,HSub h H->ACalls (C.work c Φ) 383 [v,plA p vp,.int .i64 prn,.int .i64 f,.int .i64 (m:Nat)] H (fun r h'=>r=.agg (hitCs (hitQ p s f m prn))/\HSub H h'))/\
   (∀H,HSub h H->ACalls (C.work c Φ) 313 [plA p vp,gA b sh,.int .i64 prn,.int .i64 (hitQ p s f m prn).2.2.1,.int .i64 (m:Nat)] H (fun r h'=>r=.tuple [.bool (clmQ p sh s f m prn),.int .i64 0]/\HSub H h')):=fun c Φ=>by
  have hW:Has (C.work c Φ) TA:=hC.work;refine⟨fun H q=>jha hW (hs.mono q) (R.mono q) A hf hm,fun H q=>?_⟩;have k:=jfy hW (b:=b) (s:=sh) (prn:=prn) (pw:=(hitQ p s f m prn).2.2.1) (m:=(m:Nat)) (h:=H) (R.mono q) A.p64 (by unfold In64;omega) (by unfold In64;omega);rw[cE]at k;exact k
 clear hb dE cE;generalize hitQ p s f m prn=x at*;generalize clmQ p sh s f m prn=cl at*;obtain⟨y1,y2,y3,y4⟩:=x;unfold plA gA hitCs at W;dsimp only at W;have l0:=kab k0;have l1:=kab k1;have l2:=kab k2;have l3:=kab k3;have l4:=kab k4;have l5:=kab k5;have l6:=kab k6;have l7:=kab k7;have q8:∀{w u},loadB true 8 0 (some (.cells [.int .i64 p.d,.int .i64 p.o,.int .i64 p.pb,.int .i64 p.w,.int .i64 p.mn,.int .i64 p.mx,.int .i64 p.nz,vp] w u))=some (.agg [.int .i64 p.d,.int .i64 p.o,.int .i64 p.pb,.int .i64 p.w,.int .i64 p.mn,.int .i64 p.mx,.int .i64 p.nz,vp]):=rfl
 have q2:∀{w u},loadB true 2 0 (some (.cells [.int .i64 b,.int .i64 sh] w u))=some (.agg [.int .i64 b,.int .i64 sh]):=rfl;have q4:∀{w u},loadB true 4 0 (some (.cells [.int .i64 y1,.int .i64 y2,.int .i64 y3,.int .i64 y4] w u))=some (.agg [.int .i64 y1,.int .i64 y2,.int .i64 y3,.int .i64 y4]):=rfl;refine jpu (fndP_ok i _ cl) (hC.body (by decide) (by rfl:tab 406=some B406)) rfl (Nat.le_of_ble_eq_true rfl) hic ?_;show WW C _ ic _ B406.code _;simp only[B406,zB];refine kbM fun c Φ=>?_;have w:=W c Φ;refine zs6 @k0 @k1 @k2 @k3 @k4 @q8 ?_;refine kad (w.1 _ (kag _)) ?_;rintro r h1 ⟨rfl,s1⟩
 have z1:=s1.size;refine zs ?_;clear w;refine kbM fun c Φ=>?_;have w:=W c Φ;have e1:=(s1.get _ l1).trans k1;have e2:=(s1.get _ l2).trans k2;have e4:=(s1.get _ l4).trans k4;have e5:=(s1.get _ l5).trans k5;refine zs6 e1 e2 e4 e5 @q8 @q2 ?_;refine kad (w.2 _ (zh s1)) ?_;rintro r h2 ⟨rfl,s2⟩;have z2:=s2.size;simp only[Heap.size_push]at z2;have e6:h2.get c6=some (.cells [.chan ic] x6 u6):=(s2.get _ (by simp only[Heap.size_push];omega)).trans ((get_push_lt (by omega)).trans ((s1.get _ l6).trans k6));have e7:h2.get c7=some (.cells [.int .i64 (i:Nat)] x7 u7):=(s2.get _ (by simp only[Heap.size_push];omega)).trans ((get_push_lt (by omega)).trans ((s1.get _ l7).trans k7))
 have e8:h2.get h1.size=some (.cells [.int .i64 y1,.int .i64 y2,.int .i64 y3,.int .i64 y4] true 0):=(s2.get _ (by simp only[Heap.size_push];omega)).trans (get_push_eq rfl);refine zs ?_;refine kbD ?_;refine kaW rfl fun c Φ=>?_;refine zs1 e6 ?_;refine kaW rfl fun c Φ=>?_;refine zs1 e7 ?_;refine kaW rfl fun c Φ=>?_;refine zs2 e8 @q4 ?_;refine kaW rfl fun c Φ=>?_;refine zs ?_;refine kaW rfl fun c Φ=>?_;refine zs ?_;refine kbH (fndP_ok i _ cl) ⟨rfl,rfl,0,rfl,fun vs hvs=>by cases hvs⟩
def ecell(q:EmitP×AV):List AV:=[.int .i64 q.1.prn,.int .i64 q.1.dl,.int .i64 q.1.rt,.int .u32 q.1.st,.int .u32 q.1.ph,.int .i64 q.1.amp,.int .i64 q.1.ba,q.2]
def eD:EmitP:=⟨0,0,0,0,0,0,0,[]⟩
def emC(L:List (EmitP×AV)):List AV:=L.flatMap ecell
theorem joh:∀(L:List (EmitP×AV)) (i:Nat),(emC L).drop (i*8)=emC (L.drop i)
 |L,0=>by simp
 |[],i+1=>by simp[emC]
 | q :: L, i + 1 => by
  have e:(emC (q::L)).drop ((i+1)*8)=(emC L).drop (i*8):=by
   show(ecell q++emC L).drop ((i+1)*8)=_;rw[List.drop_append];have:(ecell q).length=8:=rfl;rw[this,List.drop_eq_nil_of_le (by rw[this];omega),List.nil_append];congr 1;omega
  rw[e,joh L i];rfl
theorem jre{L:List (EmitP×AV)}(hi:i<L.length):cut (emC L) (i*8) 8=ecell L[i]:=by
 unfold cut;rw[joh,List.drop_eq_getElem_cons hi];show(ecell L[i]++emC (L.drop (i+1))).take 8=_;rw[List.take_append];have:(ecell L[i]).length=8:=rfl;rw[this];simp[ecell]
theorem jrf{L:List (EmitP×AV)}{off:Nat}(hi:i<L.length)(ho:off<8):(emC L)[i*8+off]? =(ecell L[i])[off]? :=by
 have e:=jre hi;rw[<-e];unfold cut;rw[List.getElem?_take_of_lt ho,List.getElem?_drop]
theorem joi(L:List (EmitP×AV))(q:EmitP×AV):emC (L++[q])=emC L++ecell q:=by simp[emC]
def EmsI(h:Heap)(v:AV)(es:List EmitP):Prop:=∃L:List (EmitP×AV),L.map (·.1)=es/\SL h 8 v L.length (emC L)/\∀q∈L,RI h q.2 q.1.bits
theorem EmsI.mono{es:List EmitP}(H:EmsI h v es)(hs:HSub h h'):EmsI h' v es:=by
 obtain⟨L,a,b,c⟩:=H;exact⟨L,a,b.mono hs,fun q hq=>(c q hq).mono hs⟩
theorem EmsI.len{es:List EmitP}(H:EmsI h v es):lenA v=some (.int .i64 es.length):=by
 obtain⟨L,rfl,b,_⟩:=H;rw[List.length_map];exact b.len
theorem EmsI.lt{es:List EmitP}(H:EmsI h v es):es.length<9223372036854775808:=by
 obtain⟨L,rfl,b,_⟩:=H;rw[List.length_map];exact b.lt
theorem EmsI.one{es:List EmitP}(H:EmsI h v es):v.one=true:=by
 obtain⟨L,rfl,b,_⟩:=H;exact b.one
theorem EmsI.at{h:Heap}{v:AV}{es:List EmitP}(H:EmsI h v es){i:Nat}(hi:i<es.length):∃vb,idxA 8 v (.int .i64 (i:Nat))=some (elA 8 v i)/\
  (∀h',HSub h h'->Ae.loadA h' true 8 (elA 8 v i)=some (emA (es.getD i eD) vb))/\RI h vb (es.getD i eD).bits/\(∀off:Nat,jb4 off (elA 8 v i)=some (elF 8 v i off))/\
  (∀h',HSub h h'->Ae.loadA h' false 1 (elF 8 v i 0)=some (.int .i64 (es.getD i eD).prn))/\(∀h',HSub h h'->Ae.loadA h' false 1 (elF 8 v i 1)=some (.int .i64 (es.getD i eD).dl)):=by
 obtain⟨L,rfl,b,c⟩:=H;rw[List.length_map]at hi;have e:(L.map (·.1)).getD i eD=L[i].1:=by simp[List.getD_eq_getElem?_getD,hi]
 rw[e];refine⟨L[i].2,b.idx ⟨by omega,by omega⟩,fun h' hs=>?_,c _ (List.getElem_mem hi),fun off=>b.fldE i off hi,fun h' hs=>?_,fun h' hs=>?_⟩
 ·rw[(b.mono hs).loadA hi,jre hi];rfl
 ·rw[(b.mono hs).loadE hi (by decide),jrf hi (by decide)];rfl
 ·rw[(b.mono hs).loadE hi (by decide),jrf hi (by decide)];rfl
def emsE(p:PlanP)(es:List EmitP):Nat->Int
 |0=>0
 |k+1=>if emsE p es k≠0 then emsE p es k else if emitErr p (es.getD k eD)≠0 then emitErr p (es.getD k eD)else if(∃i,i<k/\(es.getD i eD).prn=(es.getD k eD).prn)then 8 else 0
theorem jrg{es:List EmitP}{k n:Nat}(h:emsE p es k≠0)(hk:k<=n):emsE p es n=emsE p es k:=by
 induction n with
 |zero=>
  obtain rfl:k=0:=by omega
  rfl
 | succ n ih =>
  rcases Nat.lt_or_ge n k with c|c
  ·obtain rfl:k=n+1:=by omega
   rfl
  ·have:=ih c;have e:emsE p es (n+1)=if emsE p es n≠0 then emsE p es n else if emitErr p (es.getD n eD)≠0 then emitErr p (es.getD n eD)else if(∃i,i<n/\(es.getD i eD).prn=(es.getD n eD).prn)then 8 else 0:=rfl
   rw[e,if_pos (by rw[this];exact h),this]
theorem jrh{p:PlanP}{es:List EmitP}:∀{n:Nat},emsE p es n=0->∀k,k<n->emitErr p (es.getD k eD)=0
 |0,_,k,hk=>absurd hk (Nat.not_lt_zero k)
 | n + 1, h, k, hk => by
  unfold emsE at h;split at h
  ·contradiction
  ·rename_i c;split at h
   ·contradiction
   ·rename_i c2;rcases Nat.lt_or_ge k n with x|x
    ·exact jrh (Classical.not_not.1 c) k x
    ·obtain rfl:k=n:=by omega
     exact Classical.not_not.1 c2
def jbN(p:PlanP)(es:List EmitP)(ns:List (Int×Int))(m:Int):Int:=
 if p.err≠0 then p.err else if 8<es.length then 4 else if emsE p es es.length≠0 then emsE p es es.length else if m<0\/1048576<m then 2 else if m<ns.length then 4 else if(∃x∈ns,¬inS p.nz x)then 2 else 0
def scnV(p:PlanP)(es:List EmitP)(ns:List (Int×Int)):Nat->Nat->Int×Int
 |0,n=>ns.getD n (0,0)
 |k+1,n=>addP (scnV p es ns k n) (atV p (es.getD k eD) (n:Nat))
def scnL(p:PlanP)(es:List EmitP)(ns:List (Int×Int))(k m:Nat):List (Int×Int):=(List.range m).map (scnV p es ns k)
def scnP(p:PlanP)(es:List EmitP)(ns:List (Int×Int))(k n m:Nat):List (Int×Int):=(List.range m).map fun i=>if i<n then scnV p es ns (k+1) i else scnV p es ns k i
theorem jdf{es:List EmitP}{ns:List (Int×Int)}{k:Nat}:(scnL p es ns k m).length=m:=by simp[scnL]
theorem jnu{es:List EmitP}{ns:List (Int×Int)}{k n:Nat}:(scnP p es ns k n m).length=m:=by simp[scnP]
theorem jri{es:List EmitP}{ns:List (Int×Int)}{k:Nat}:scnP p es ns k 0 m=scnL p es ns k m:=by simp[scnP,scnL]
theorem jsO{es:List EmitP}{ns:List (Int×Int)}{k:Nat}:scnP p es ns k m m=scnL p es ns (k+1) m:=by
 refine List.ext_getElem (by simp[scnP,scnL]) fun i h1 h2=>?_;have:i<m:=by simpa[scnP]using h1
 simp[scnP,scnL,this]
theorem jsP{es:List EmitP}{ns:List (Int×Int)}{k n:Nat}(h:n<m):(scnP p es ns k n m).getD n (0,0)=scnV p es ns k n:=by
 simp[scnP,List.getD_eq_getElem?_getD,h]
theorem jsQ{es:List EmitP}{ns:List (Int×Int)}{k n:Nat}(h:n<m):(scnP p es ns k n m).set n (scnV p es ns (k+1) n)=scnP p es ns k (n+1) m:=by
 refine List.ext_getElem (by simp[scnP]) fun i h1 h2=>?_;simp only[scnP,List.getElem_set,List.getElem_map,List.getElem_range];by_cases c:n=i
 ·subst c;simp
 ·rw[if_neg c];by_cases c2:i<n
  ·rw[if_pos c2,if_pos (by omega)]
  ·rw[if_neg c2,if_neg (by omega)]
theorem jrj{es:List EmitP}{ns:List (Int×Int)}(h:ns.length<=m):ns++List.replicate (m-ns.length) (0,0)=scnL p es ns 0 m:=by
 refine List.ext_getElem (by simp[scnL];omega) fun i h1 h2=>?_;simp only[scnL,List.getElem_map,List.getElem_range,scnV];rw[List.getD_eq_getElem?_getD,List.getElem_append];split
 ·rename_i c;rw[List.getElem?_eq_getElem c];rfl
 ·rename_i c;rw[List.getElem?_eq_none (by omega),List.getElem_replicate];rfl
theorem jnv{p:PlanP}{es:List EmitP}{ns:List (Int×Int)}(hn:p.numsOk)(hns:∀x∈ns,inS p.nz x):∀(k n:Nat),(∀i,i<k->EmOk p (es.getD i eD))->inS (p.nz+127000*(k:Int)) (scnV p es ns k n)
 |0,n,_=>by
  unfold scnV;have nz:=hn.2.2.2.2.2.2;rcases Nat.lt_or_ge n ns.length with c|c
  ·have:=hns _ (jcg c);simpa using this
  ·rw[List.getD_eq_getElem?_getD,List.getElem?_eq_none c];unfold inS;simp only[Option.getD_none];omega
 |k+1,n,h=>by
  have a:=jnv (ns:=ns) hn hns k n (fun i hi=>h i (by omega));have b:=jto (h k (by omega)) (n:Int);have q:=jkr a b;unfold scnV;exact jhs q (by rw[Int.natCast_add];omega)
theorem copy2{h:Heap}{i n u:Nat}{c:Cap}{s:AV}{ns zs9:List (Int×Int)}(hc:jaH h 2 s=some (ns.length,smps ns))(hg:h.get i=some (.cells (smps zs9) true u))(hz:zs9.length=n)(hn:ns.length<=n):
  copyA h 2 (.slice i 0 n c) s=some (.int .i64 (ns.length:Nat),h.put i (.cells (smps (ns++zs9.drop ns.length)) true u)):=by
 have m:min ns.length n=ns.length:=by omega
 have tk:(smps ns).take (ns.length*2)=smps ns:=List.take_of_length_le (by rw[jaV];omega);have on:(smps ns).all AV.one=true:=by
  simp only[List.all_eq_true];intro x hx;unfold smps at hx;obtain⟨q,_,hq⟩:=List.mem_flatMap.1 hx;simp only[List.mem_cons,List.not_mem_nil,or_false]at hq;rcases hq with rfl|rfl<;>rfl
 have sp:splice (smps zs9) 0 (smps ns)=smps (ns++zs9.drop ns.length):=by
  rw[jgD (by rw[jaV,jaV];omega)];rw[List.take_zero,List.nil_append,Nat.zero_add,jaV,jql];simp[smps]
 simp only[copyA,hc,hg,m,tk,Nat.zero_add];rw[if_pos ⟨by rw[jaV];omega,on⟩,sp]
theorem jeK{p:PlanP}{es:List EmitP}{ns:List (Int×Int)}{m x:Int}{h h':Heap}(hx:jbN p es ns m=x)(h0:x≠0)(hs:HSub h h'):
  ∃w,AV.tuple [.nilslice,.int .i64 x]=jai w (jbN p es ns m)/\HSub h h'/\SI h' w (if jbN p es ns m=0 then scnL p es ns es.length m.toNat else[])/\∀i∈w.ids,h.size<=i:=by
 refine⟨.nilslice,by rw[hx];rfl,hs,?_,by simp[AV.ids]⟩;rw[hx,if_neg h0];exact kbw
theorem jsR{es:List EmitP}{k:Nat}(hk:k<es.length)(h0:emsE p es k=0)(h:emitErr p (es.getD k eD)≠0):emsE p es es.length=emitErr p (es.getD k eD):=by
 have e:emsE p es (k+1)=emitErr p (es.getD k eD):=by
  show(if emsE p es k≠0 then emsE p es k else if emitErr p (es.getD k eD)≠0 then emitErr p (es.getD k eD)else _)=_;rw[if_neg (by rw[h0];decide),if_pos h]
 rw[jrg (k:=k+1) (by rw[e];exact h) hk,e]
theorem jsS{es:List EmitP}{k:Nat}(hk:k<es.length)(h0:emsE p es k=0)(h:emitErr p (es.getD k eD)=0)(hi:i<k)(he:(es.getD i eD).prn=(es.getD k eD).prn):emsE p es es.length=8:=by
 have e:emsE p es (k+1)=8:=by
  show(if emsE p es k≠0 then emsE p es k else if emitErr p (es.getD k eD)≠0 then emitErr p (es.getD k eD)else if(∃i,i<k/\(es.getD i eD).prn=(es.getD k eD).prn)then 8 else 0)=_;rw[if_neg (by rw[h0];decide),if_neg (by rw[h];decide),if_pos ⟨i,hi,he⟩]
 rw[jrg (k:=k+1) (by rw[e];decide) hk,e]
theorem jl7{es:List EmitP}{k:Nat}(h0:emsE p es k=0)(h:emitErr p (es.getD k eD)=0)(hn:∀i,i<k->(es.getD i eD).prn≠(es.getD k eD).prn):emsE p es (k+1)=0:=by
 show(if emsE p es k≠0 then emsE p es k else if emitErr p (es.getD k eD)≠0 then emitErr p (es.getD k eD)else if(∃i,i<k/\(es.getD i eD).prn=(es.getD k eD).prn)then 8 else 0)=_;rw[if_neg (by rw[h0];decide),if_neg (by rw[h];decide),if_neg (fun⟨i,a,b⟩=>hn i a b)]
theorem jpv(hC:Has C TA){vp ve vn:AV}{p:PlanP}{es:List EmitP}{ns:List (Int×Int)}{m:Int}{h:Heap}(R:RI h vp p.prns)(h64:p.ok64)(E:EmsI h ve es)(h65:∀k,k<es.length->(es.getD k eD).ok64)(N:SI h vn ns)(hm:In64 m):
  ACalls C 232 [plA p vp,ve,vn,.int .i64 m] h (fun r h'=>∃w,r=jai w (jbN p es ns m)/\HSub h h'/\SI h' w (if jbN p es ns m=0 then scnL p es ns es.length m.toNat else[])/\∀i∈w.ids,h.size<=i):=by
 have v1:=R.one;have w1:=E.one;have n1:=N.one;unfold In64 at hm;have kP:=fun h1 (q:HSub h h1)=>jdc hC (v:=plA p vp) ⟨vp,rfl,R.mono q⟩ h64;have kE:=fun(k:Nat) (hk:k<es.length) vb h1 (B:RI h1 vb (es.getD k eD).bits) (q:HSub h h1)=>jiu hC (v:=plA p vp) (w:=emA (es.getD k eD) vb) ⟨vp,rfl,R.mono q⟩ ⟨vb,rfl,B⟩ h64 (h65 k hk);have kC:=fun q (hq:In64 q) h1=>jjw hC (d:=p.d) (p:=q) (h:=h1) h64.1 hq;have kA:=fun(k n:Nat) (hk:k<es.length) (ok:EmOk p (es.getD k eD)) (hn:n<=1048576) vb vc h1 (B:RI h1 vb (es.getD k eD).bits) (W:RI h1 vc (codeL p.d (es.getD k eD).prn))=>jjE hC (n:=(n:Int)) ok (h65 k hk) B W v1 (by omega)
 have zr9:=jbv (p:=(0,0)) (n:=m.toNat);simp only at zr9;unfold plA at*;have q8:loadB true 8 0 (some (.cells [.int .i64 p.d,.int .i64 p.o,.int .i64 p.pb,.int .i64 p.w,.int .i64 p.mn,.int .i64 p.mx,.int .i64 p.nz,vp] true 0))=some (.agg [.int .i64 p.d,.int .i64 p.o,.int .i64 p.pb,.int .i64 p.w,.int .i64 p.mn,.int .i64 p.mx,.int .i64 p.nz,vp]):=rfl;have q0:([.int .i64 p.d,.int .i64 p.o,.int .i64 p.pb,.int .i64 p.w,.int .i64 p.mn,.int .i64 p.mx,.int .i64 p.nz,vp]:List AV)[0]? =some (.int .i64 p.d):=rfl;have q6:([.int .i64 p.d,.int .i64 p.o,.int .i64 p.pb,.int .i64 p.w,.int .i64 p.mn,.int .i64 p.mx,.int .i64 p.nz,vp]:List AV)[6]? =some (.int .i64 p.nz):=rfl
 have pone:([.int .i64 p.d,.int .i64 p.o,.int .i64 p.pb,.int .i64 p.w,.int .i64 p.mn,.int .i64 p.mx,.int .i64 p.nz,vp]:List AV).all AV.one=true:=by simp only[List.all_cons,List.all_nil,jfp,v1,Bool.and_self]
 generalize ([.int .i64 p.d,.int .i64 p.o,.int .i64 p.pb,.int .i64 p.w,.int .i64 p.mn,.int .i64 p.mx,.int .i64 p.nz,vp]:List AV)=pc at*;have hs1:=kac h (.cells pc true 0);have gp:=get_push_eq (h:=h) (b:=.cells pc true 0) (i:=h.size) rfl;obtain⟨M,hM⟩:∃M,m.toNat=M:=⟨_,rfl⟩;have El:=E.len;have Nl:=N.len;have Elt:=E.lt;have Nlt:=N.lt;have E1:=E.mono hs1;have N1:=N.mono hs1;refine zf 232 B232 hC ?_;simp only[B232,zB];refine zs1 q8 ?_;refine kaa (kP _ hs1) (zs ?_);refine kaf (fun c=>?_) (fun c=>?_)
 ·refine zs ?_;exact jeK (by unfold jbN;rw[if_pos c]) c hs1
 have pz:p.err=0:=Classical.not_not.1 c;have hp:p.numsOk:=by
  by_cases q:p.numsOk
  ·exact q
  ·exfalso;unfold PlanP.err at pz;rw[if_neg q]at pz;cases pz
 have nz:=hp.2.2.2.2.2.2;refine zs1 El ?_;refine kaf (fun c1=>?_) (fun c1=>?_)
 ·refine zs ?_;exact jeK (by unfold jbN;rw[if_neg c,if_pos (by omega)]) (by decide) hs1
 refine zs ?_;refine jae (fun j t h'=>h'=h.push (.cells pc true 0)/\t 1=ve/\t 2=vn/\t 3=.int .i64 m/\t 4=.ptr h.size 0/\∃k:Nat,t 11=.int .i64 (k:Nat)/\k<=es.length/\j=es.length-k/\emsE p es k=0) (j0:=es.length)
  ⟨rfl,rfl,rfl,rfl,rfl,0,rfl,by omega,rfl,rfl⟩ ?_
 rintro j t h1 ⟨rfl,e1,e2,e3,e4,k,e11,hk,hj,ez⟩;refine zs3 e1 e11 El ?_;refine kaf (fun c2=>?_) (fun c2=>?_)
 ·have hk':k<es.length:=by omega
  obtain⟨vb,i8,l8,B,f8,l0,l1⟩:=E1.at hk';have l8:=l8 _ (kag _);have l0k:=l0 _ (kag _);have f0k:=f8 0;have mb:jbN p es ns m=if emsE p es es.length≠0 then emsE p es es.length else if m<0\/1048576<m then 2 else if m<ns.length then 4 else if(∃x∈ns,¬inS p.nz x)then 2 else 0:=by
   unfold jbN;rw[if_neg c,if_neg (by omega)]
  refine zs7 e1 e4 e11 gp q8 i8 l8 ?_;refine kaa (kE k hk' vb _ B hs1) (zs ?_);refine kaf (fun c3=>?_) (fun c3=>?_)
  ·have eb:=jsR hk' ez c3;refine zs ?_;exact jeK (by rw[mb,eb,if_pos c3]) c3 hs1
  have c3:emitErr p (es.getD k eD)=0:=Classical.not_not.1 c3;refine zs ?_;refine jae (fun j u h'=>h'=h.push (.cells pc true 0)/\u 1=ve/\u 2=vn/\u 3=.int .i64 m/\u 4=.ptr h.size 0/\u 11=.int .i64 (k:Nat)/\∃i:Nat,u 13=.int .i64 (i:Nat)/\i<=k/\j=k-i/\∀x,x<i->(es.getD x eD).prn≠(es.getD k eD).prn) (j0:=k)
   ⟨rfl,e1,e2,e3,e4,e11,0,rfl,by omega,rfl,fun x hx=>absurd hx (Nat.not_lt_zero x)⟩ ?_
  rintro j2 u h1 ⟨rfl,e1,e2,e3,e4,e11,i,e13,hi,hj2,hne⟩;refine zs2 e11 e13 ?_;refine kaf (fun c4=>?_) (fun c4=>?_)
  ·have hi':i<es.length:=by omega
   obtain⟨vb2,i8b,_,_,f8b,l0b,_⟩:=E1.at hi';have l0b:=l0b _ (kag _);have f0b:=f8b 0;refine zs7 e1 e11 e13 i8 i8b f0k (zI f0b (zI l0k l0b)) ?_;refine kaf (fun c5=>?_) (fun c5=>?_)
   ·have et:=jsS hk' ez c3 (i:=i) (by omega) c5;refine zs ?_;exact jeK (by rw[mb,et];rfl) (by decide) hs1
   ·refine zs1 e13 ?_;refine⟨_,⟨e1,e2,e3,e4,e11,i+1,rfl,by omega,rfl,fun x hx=>?_⟩,by omega⟩;rcases Nat.lt_or_ge x i with q|q
    ·exact hne x q
    ·obtain rfl:x=i:=by omega
     exact c5
  ·refine zs1 e11 ?_;refine⟨_,⟨e1,e2,e3,e4,k+1,rfl,by omega,rfl,jl7 ez c3 (fun x hx=>hne x (by omega))⟩,by omega⟩
 obtain rfl:k=es.length:=by omega
 have mb:jbN p es ns m=if m<0\/1048576<m then 2 else if m<ns.length then 4 else if(∃x∈ns,¬inS p.nz x)then 2 else 0:=by
  unfold jbN;rw[if_neg c,if_neg (by omega),if_neg (by rw[ez];decide)]
 have eok:=fun k hk=>jkC (jrh ez k hk);have hm0:¬(m<0\/1048576<m)->(M:Int)=m/\M<=1048576:=fun q=>by omega
 refine zs1 e3 ?_;refine kaf (fun c3=>?_) (fun c3=>?_)
 ·refine zs ?_;exact jeK (by rw[mb,if_pos (.inl c3)]) (by decide) hs1
 refine zs1 e3 ?_;refine kaf (fun c4=>?_) (fun c4=>?_)
 ·refine zs ?_;exact jeK (by rw[mb,if_pos (.inr c4)]) (by decide) hs1
 have hm2:(M:Int)=m/\M<=1048576:=by omega
 refine zs3 e2 e3 Nl ?_;refine kaf (fun c5=>?_) (fun c5=>?_)
 ·refine zs ?_;exact jeK (by rw[mb,if_neg (by omega),if_pos c5]) (by decide) hs1
 have mb2:jbN p es ns m=if(∃x∈ns,¬inS p.nz x)then 2 else 0:=by rw[mb,if_neg (by omega),if_neg c5]
 refine zs ?_;refine jae (fun j u h'=>h'=h.push (.cells pc true 0)/\u 1=ve/\u 2=vn/\u 3=.int .i64 m/\u 4=.ptr h.size 0/\∃i:Nat,u 14=.int .i64 (i:Nat)/\i<=ns.length/\j=ns.length-i/\∀x,x<i->inS p.nz (ns.getD x (0,0))) (j0:=ns.length)
  ⟨rfl,e1,e2,e3,e4,0,rfl,by omega,rfl,fun x hx=>absurd hx (Nat.not_lt_zero x)⟩ ?_
 rintro j2 u h1 ⟨rfl,e1,e2,e3,e4,i,e14,hi,hj2,hin⟩;refine zs3 e2 e14 Nl ?_;refine kaf (fun c6=>?_) (fun c6=>?_)
 ·have hi':i<ns.length:=by omega
  have ni:=N1.idx (kk:=.i64) (k:=(i:Nat)) ⟨by omega,by omega⟩;rw[Int.toNat_natCast]at ni;have n0:=N1.load0 hi';have n2:=N1.load1 hi';have nf0:=N1.fld i 0 hi';have nf1:=N1.fld i 1 hi';have gm:=jcg hi';generalize hx:ns.getD i (0,0)=x at n0 n2 gm;have bad:¬inS p.nz x->jbN p es ns m=2:=fun q=>by rw[mb2,if_pos ⟨x,gm,q⟩]
  unfold inS at bad;refine zs7 e2 e4 e14 ni nf0 nf1 (zI n0 (zI @n2 (zI gp q6))) ?_;refine kaf (fun d1=>?_) (fun d1=>?_)
  ·refine zs ?_;exact jeK (bad (by omega)) (by decide) hs1
  refine zs7 e2 e4 e14 ni nf0 nf1 (zI n0 (zI @n2 (zI gp q6))) ?_;refine kaf (fun d2=>?_) (fun d2=>?_)
  ·refine zs ?_;exact jeK (bad (by omega)) (by decide) hs1
  refine zs7 e2 e4 e14 ni nf0 nf1 (zI n0 (zI @n2 (zI gp q6))) ?_;refine kaf (fun d3=>?_) (fun d3=>?_)
  ·refine zs ?_;exact jeK (bad (by omega)) (by decide) hs1
  refine zs7 e2 e4 e14 ni nf0 nf1 (zI n0 (zI @n2 (zI gp q6))) ?_;refine kaf (fun d4=>?_) (fun d4=>?_)
  ·refine zs ?_;exact jeK (bad (by omega)) (by decide) hs1
  refine zs1 e14 ?_;refine⟨_,⟨e1,e2,e3,e4,i+1,rfl,by omega,rfl,fun y hy=>?_⟩,by omega⟩;rcases Nat.lt_or_ge y i with q|q
  ·exact hin y q
  ·obtain rfl:y=i:=by omega
   rw[hx];unfold inS;omega
 obtain rfl:i=ns.length:=by omega
 have nin:∀x∈ns,inS p.nz x:=fun x hx=>by
  obtain⟨y,hy,rfl⟩:=List.getElem_of_mem hx;have:=hin y hy
  rwa [List.getD_eq_getElem?_getD,List.getElem?_eq_getElem hy,Option.getD_some]at this
 have mz:jbN p es ns m=0:=by rw[mb2,if_neg (fun⟨x,hx,q⟩=>q (nin x hx))]
 have svn:=fun k n hk=>jnv hp nin k n (fun i hi=>eok i (Nat.lt_of_lt_of_le hi hk));have nle:ns.length<=M:=by omega
 clear hin mb mb2;rw[hM]at zr9;have cpy:copyA ((h.push (.cells pc true 0)).push (.cells (smps (List.replicate M (0,0))) true 0)) 2 (.slice (h.size+1) 0 M (.known M)) vn=some (.int .i64 (ns.length:Nat),(h.push (.cells pc true 0)).push (.cells (smps (scnL p es ns 0 M)) true 0)):=by
  have g:=get_push_eq (h:=h.push (.cells pc true 0)) (b:=.cells (smps (List.replicate M (0,0))) true 0) (i:=h.size+1) rfl;rw[copy2 (N1.mono (kac _ _)).content g (by simp) nle,List.drop_replicate,jrj nle,push_put (h:=h.push (.cells pc true 0)) (i:=h.size+1) rfl]
 refine zs7 e1 e2 e3 e4 hM zr9 cpy ?_;refine jae (fun j u h'=>(∃k:Nat,u 16=.int .i64 (k:Nat)/\k<=es.length/\j=es.length-k/\h'.get (h.size+1)=some (.cells (smps (scnL p es ns k M)) true 0))/\HSub (h.push (.cells pc true 0)) h'/\h.size+1<h'.size/\u 1=ve/\u 3=.int .i64 m/\u 4=.ptr h.size 0/\u 15=.slice (h.size+1) 0 M (.known M)) (j0:=es.length)
  ⟨⟨0,rfl,by omega,rfl,by exact ze⟩,kac _ _,by simp,e1,e3,e4,rfl⟩ ?_
 rintro j3 u h1 ⟨⟨k,e16,hk,hj,gb⟩,sH,zH,e1,e3,e4,e15⟩;have gp1:h1.get h.size=some (.cells pc true 0):=(sH.get _ (by simp)).trans gp;refine zs3 e1 e16 El ?_;refine kaf (fun c7=>?_) (fun c7=>?_)
 ·have hk':k<es.length:=by omega
  have ok:=eok k hk';obtain⟨vb,i8,l8,B,f8,l0,_⟩:=E1.at hk';have l0k:=l0 _ sH;have f0k:=f8 0;have kCk:=kC (es.getD k eD).prn (h65 k hk').1;have cz:=ok.code;rw[cz,if_pos rfl]at kCk;refine zs7 e1 e3 e4 e15 e16 gp1 (zI i8 (zI q0 (zI f0k l0k))) ?_;refine kad (kCk _) ?_;rintro r h2 ⟨vc,rfl,s2,W,fr⟩;have gb2:=(s2.get _ (by omega)).trans gb;have nid:h.size+1∉vc.ids:=fun q=>by have:=fr _ q;omega
  have vlt:∀i∈vc.ids,i<h2.size:=W.lt_ids;have gp2:=(s2.get _ (by omega)).trans gp1;have sH2:=sH.trans s2;have z2:=s2.size;refine zs1 @jai.eq_1 ?_;refine jae (fun j u h'=>∃n:Nat,u 19=.int .i64 (n:Nat)/\n<=M/\j=M-n/\h'.get (h.size+1)=some (.cells (smps (scnP p es ns k n M)) true 0)/\(∀i,i<h2.size->i≠h.size+1->h'.get i=h2.get i)/\h2.size<=h'.size/\u 1=ve/\u 3=.int .i64 m/\u 4=.ptr h.size 0/\u 15=.slice (h.size+1) 0 M (.known M)/\u 16=.int .i64 (k:Nat)/\u 17=vc) (j0:=M)
   ⟨0,rfl,by omega,rfl,by rw[jri];exact gb2,fun _ _ _=>rfl,by omega,e1,e3,e4,e15,e16,rfl⟩ ?_
  rintro j4 u h3 ⟨n,e19,hn,hj4,gb3,K3,z3,e1,e3,e4,e15,e16,e17⟩;have gp3:=(K3 h.size (by omega) (by omega)).trans gp2;have sub3:HSub (h.push (.cells pc true 0)) h3:=⟨by simp only[Heap.size_push];omega,fun i hi=>by
   simp only[Heap.size_push]at hi;rw[K3 i (by omega) (by omega)];exact sH2.get i (by simp only[Heap.size_push];omega)⟩
  have W3:RI h3 vc (codeL p.d (es.getD k eD).prn):=W.off fun i hi=>K3 i (vlt i hi) (fun q=>nid (q▸hi));refine zs2 e3 e19 ?_;refine kaf (fun c8=>?_) (fun c8=>?_)
  ·have hn':n<M:=by omega
   have kA:=fun h1 (q:HSub h3 h1)=>kA k n hk' ok (by omega) vb vc h1 ((B.mono sub3).mono q) (W3.mono q);have l8n:=fun h1 (q:HSub h3 h1)=>l8 h1 (sub3.trans q);have sv0:=svn k n hk;have sv1:=svn (k+1) n hk';have hat:=jto ok (n:Nat);have set:=jsQ (p:=p) (es:=es) (ns:=ns) (k:=k) hn';have get:=jsP (p:=p) (es:=es) (ns:=ns) (k:=k) hn';have add:scnV p es ns (k+1) n=addP (scnV p es ns k n) (atV p (es.getD k eD) (n:Nat)):=rfl;have ln:(scnP p es ns k n M).length=M:=jnu;have ln2:(smps (scnP p es ns k n M)).length=M*2:=by rw[jaV,ln]
   have sp:=jda (l:=scnP p es ns k n M) (k:=n) (p:=scnV p es ns (k+1) n) (by rw[ln];exact hn');have g1:(scnP p es ns k n M)[n]? =some (scnV p es ns k n):=by
    rw[List.getD_eq_getElem?_getD,List.getElem?_eq_getElem (by rw[ln];exact hn'),Option.getD_some]at get;rw[List.getElem?_eq_getElem (by rw[ln];exact hn'),get]
   have i0:(smps (scnP p es ns k n M))[n*2]? =some (.int .i64 (scnV p es ns k n).1):=by rw[jfX,g1];rfl
   have i1:(smps (scnP p es ns k n M))[n*2+1]? =some (.int .i64 (scnV p es ns k n).2):=by rw[jfY,g1];rfl
   rw[set]at sp;rw[add]at sp sv1;generalize atV p (es.getD k eD) (n:Nat)=y at kA hat sp sv1;generalize scnV p es ns k n=x at i0 i1 sv0 sp sv1;obtain⟨y1,y2⟩:=y;obtain⟨x1,x2⟩:=x;unfold inS at hat sv0 sv1;unfold smp at kA;unfold addP at sp sv1;dsimp only at hat sv0 sv1 kA sp i0 i1;have hkk:(k:Int)<8:=by omega
   refine zs7 e1 e4 e15 e16 e17 e19 (zI gp3 (zI i8 (zI q8 (zI l8n @Heap.wf)))) ?_;refine kaa (kA _ zr) (zs7 e1 e3 e4 e15 e16 e17 (zI e19 (zI gb3 (zI i0 (zI i1 (zI sp (zI ln2 @Heap.wf)))))) ?_);refine⟨_,⟨n+1,by omega,by omega,rfl,rfl,fun i hi hne=>?_,by omega⟩,by omega⟩;exact(get_put_ne (by omega)).trans ((get_put_ne (by omega)).trans (K3 i hi hne))
  ·obtain rfl:n=M:=by omega
   rw[jsO]at gb3;refine zs1 e16 ?_;exact⟨_,⟨⟨k+1,rfl,by omega,rfl,gb3⟩,sub3,by omega,e1,e3,e4,e15⟩,by omega⟩
 ·obtain rfl:k=es.length:=by omega
  refine zs1 e15 ?_;refine⟨_,by rw[mz];rfl,(kac _ _).trans sH,?_,fun i hi=>by simp[AV.ids]at hi;omega⟩;rw[if_pos mz];exact kaM gb ⟨jdf.symm,by omega⟩ (Nat.le_refl _)
theorem SL.takeK{n:Nat}(H:SL h sz v n cs){k:Nat}{kk:IntKind}(hk:k<=n):∃v',(∀h',HSub h h'->jaO h' sz v none (some (.int kk (k:Nat))) none=some v')/\SL h sz v' k (cs.take (k*sz)):=by
 obtain⟨hl,hlt,⟨rfl,rfl⟩|⟨i,o,c,vs,wr,u,rfl,hg,hle,hc,hcap⟩⟩:=H
 ·obtain rfl:k=0:=by omega
  have:cs=[]:=List.eq_nil_of_length_eq_zero (by omega);subst this;exact⟨.nilslice,fun h' _=>rfl,by simp,by omega,.inl ⟨rfl,rfl⟩⟩
 ·have hks:k*sz<=n*sz:=Nat.mul_le_mul_right sz hk;have hct:cut vs o (k*sz)=cs.take (k*sz):=by rw[<-hc];simp only[cut,List.take_take];congr 1;omega
  have hle2:(cs.take (k*sz)).length=k*sz:=by rw[List.length_take];omega
  cases c with
  | known c =>
   have hb:jca n c none (some (.int kk (k:Nat))) none=some (0,k,c):=by
    simp only[jca,intA];rw[if_pos (by omega)];simp
   refine⟨.slice i (if c=0 then o else o+0*sz) (k-0) (.known (c-0)),fun h' _=>by simp only[jaO,hb],hle2,by omega,.inr ⟨i,if c=0 then o else o+0*sz,_,vs,wr,u,rfl,hg,?_,?_,?_⟩⟩
   ·split<;>omega
   ·have:(if c=0 then o else o+0*sz)=o:=by split<;>omega
    rw[this];exact hct
   ·show k<=c-0;have:n<=c:=hcap;omega
  | unk l =>
   obtain⟨rfl,rfl,rfl⟩:=hcap;have hb:jca n n none (some (.int kk (k:Nat))) none=some (0,k,n):=by
    simp only[jca,intA];rw[if_pos (by omega)];simp
   refine⟨.slice i (l*u+0*u) (k-0) (.unk (l+0)),fun h' hs=>?_,hle2,by omega,.inr ⟨i,l*u+0*u,_,vs,true,u,rfl,hg,by omega,by simpa using hct,rfl,rfl,by simp⟩⟩;have hg':=(hs.get i (kab hg)).trans hg;simp only[jaO,hg'];rw[if_pos ⟨trivial,trivial,hle⟩];simp[hb]
section
variable {C : Ctx} {nt : Nat} {Q : Out -> Gh -> St -> Prop} {g : Gh} {st : St}
theorem kaF{a b:ACode}(h:∀ph,wp (C.at ph) nt none a (thenO (fun st'=>WM C nt b Q g st') fun o st'=>Q o g st') st):WM C nt (.seq a b) Q g st:=by
 refine ka7 (kaN fun ph=>jmG ?_ (h ph));intro o st' hq;cases o<;>exact hq
theorem jue{ph:Phase}{o:AOper}{K:St->Prop}(ho:cls o.op≠2)(h:wpOp C nid o K st):wpOp (C.at ph) nid o K st:=by
 obtain⟨dst,op,gd⟩:=o;cases op<;>first|exact absurd rfl ho|exact h
theorem kaS{K:Gh->St->Prop}{o:AOper}{os:List AOper}(hg:o.guard=none)(ho:cls o.op≠2)(h:wpOp C none o (fun st'=>WMo C nt os K g st') st):WMo C nt (o::os) K g st:=
 kbK hg fun ph=>jue ho h
end
def seqR:ACode->ACode
 |.seq _ b=>b
 |c=>c
theorem jeL{wr:Bool}(hg:h.get i=some (.cells vs wr u)):h.freeze.get i=some (.cells vs false u):=by rw[jdR,hg];rfl
theorem jhy{f:Nat->List AV}{w:Nat}(hf:∀i,(f i).length=w):∀l:List Nat,(l.flatMap f).length=l.length*w
 |[]=>by simp
 |x::l=>by rw[List.flatMap_cons,List.length_append,hf,jhy hf l,List.length_cons,Nat.succ_mul];omega
theorem jjH{f:Nat->List AV}{w:Nat}(hf:∀i,(f i).length=w){N k:Nat}(hk:k<N):∃A B,A.length=k*w/\(∀g:Nat->List AV,(∀i,i≠k->g i=f i)->(List.range N).flatMap g=A++(g k++B)):=by
 refine⟨(List.range k).flatMap f,(List.range' (k+1) (N-k-1)).flatMap f,by rw[jhy hf,List.length_range],fun g hg=>?_⟩;have e:List.range N=List.range k++k::List.range' (k+1) (N-k-1):=by
  rw[List.range_eq_range',List.range_eq_range',show N=k+(N-k-1+1)by omega,<-List.range'_append_1,Nat.zero_add,List.range'_succ];congr 3;omega
 have c1:(List.range k).flatMap g=(List.range k).flatMap f:=by
  rw[List.flatMap_def,List.flatMap_def];congr 1;refine List.map_congr_left fun i hi=>hg i (by have:=List.mem_range.1 hi;omega)
 have c2:(List.range' (k+1) (N-k-1)).flatMap g=(List.range' (k+1) (N-k-1)).flatMap f:=by
  rw[List.flatMap_def,List.flatMap_def];congr 1;refine List.map_congr_left fun i hi=>hg i (by have:=(List.mem_range'_1.1 hi).1;omega)
 rw[e,List.flatMap_append,List.flatMap_cons,c1,c2]
theorem jsT{f:Nat->List AV}{w:Nat}(hf:∀i,(f i).length=w){N k:Nat}(hk:k<N):cut ((List.range N).flatMap f) (k*w) w=f k:=by
 obtain⟨A,B,hA,h⟩:=jjH hf hk;rw[h f fun _ _=>rfl];unfold cut;rw[<-hA,List.drop_left,<-hf k,List.take_left]
theorem jnw{f:Nat->List AV}{w:Nat}(hf:∀i,(f i).length=w){N k:Nat}(hk:k<N){xs:List AV}(hx:xs.length=w)(hw:2<=w):splice ((List.range N).flatMap f) (k*w) xs=(List.range N).flatMap fun i=>if i=k then xs else f i:=by
 obtain⟨A,B,hA,h⟩:=jjH hf hk;rw[h f (fun _ _=>rfl),h (fun i=>if i=k then xs else f i) (fun i hi=>if_neg hi),if_pos rfl];have e:splice (A++(f k++B)) (k*w) xs=(A++(f k++B)).take (k*w)++xs++(A++(f k++B)).drop (k*w+xs.length):=by
  unfold splice;split
  ·simp at hx;omega
  ·rfl
 rw[e,<-hA,List.take_left,List.append_assoc,<-List.drop_drop,List.drop_left,hx,<-hf k,List.drop_left]
def fndZ:List AV:=[.int .i64 0,.int .i64 0,.int .i64 0,.int .i64 0,.int .i64 0,.bool false]
def resC(F:Nat->List AV)(N:Nat)(D:List Nat):List AV:=(List.range N).flatMap fun i=>if i∈D then F i else fndZ
theorem jsU{F:Nat->List AV}{N:Nat}:jbo N fndZ=resC F N []:=by
 show(List.replicate N fndZ).flatten=_;unfold resC;rw[List.flatMap_def];congr 1;refine List.ext_getElem (by simp) fun i a b=>by simp
theorem jrk{F:Nat->List AV}(hF:∀i,(F i).length=6){N e:Nat}{D:List Nat}(he:e<N):splice (resC F N D) (e*6) (F e)=resC F N (D++[e]):=by
 unfold resC;rw[jnw (fun i=>by split;exact hF i;rfl) he (hF e) (by decide)];congr 1;funext i;by_cases c:i=e
 ·subst c;simp
 ·simp[c]
theorem jrl{F:Nat->List AV}{N:Nat}{D:List Nat}(h:D.Perm (List.range N)):resC F N D=(List.range N).flatMap F:=by
 unfold resC;rw[List.flatMap_def,List.flatMap_def];congr 1;refine List.map_congr_left fun i hi=>if_pos ((h.mem_iff).2 hi)
theorem jsV{F:Nat->List AV}(hF:∀i,(F i).length=6){N:Nat}{D:List Nat}:(resC F N D).length=N*6:=by
 unfold resC;rw[jhy (w:=6) (fun i=>by split;exact hF i;rfl),List.length_range]
structure AllH (v vp:AV) (s:List (Int×Int)) (p:PlanP) (b sh f:Int) (m i c:Nat) (h:Heap):Prop where
 s:SI h v s
 r:RI h vp p.prns
 g0:∃w u,h.get i=some (.cells [v] w u)
 g1:∃w u,h.get (i+1)=some (.cells [.int .i64 p.d,.int .i64 p.o,.int .i64 p.pb,.int .i64 p.w,.int .i64 p.mn,.int .i64 p.mx,.int .i64 p.nz,vp] w u)
 g2:∃w u,h.get (i+2)=some (.cells [.int .i64 b,.int .i64 sh] w u)
 g3:∃w u,h.get (i+3)=some (.cells [.int .i64 f] w u)
 g4:∃w u,h.get (i+4)=some (.cells [.int .i64 (m:Nat)] w u)
 g5:∃w u,h.get (c+1)=some (.cells [.chan c] w u)
theorem jbr(hs:HSub h h')(g:∃w u,h.get i=some (.cells vs w u)):∃w u,h'.get i=some (.cells vs w u):=by
 obtain⟨w,u,g⟩:=g;exact⟨w,u,(hs.get _ (kab g)).trans g⟩
theorem jdS(g:∃w u,h.get i=some (.cells vs w u)):∃w u,h.freeze.get i=some (.cells vs w u):=by
 obtain⟨w,u,g⟩:=g;exact⟨_,_,jeL g⟩
theorem AllH.mono{sh:Int}{c:Nat}(H:AllH v vp s p b sh f m i c h)(hs:HSub h h'):AllH v vp s p b sh f m i c h':=
 ⟨H.s.mono hs,H.r.mono hs,jbr hs H.g0,jbr hs H.g1,jbr hs H.g2,jbr hs H.g3,jbr hs H.g4,jbr hs H.g5⟩
theorem AllH.frz{sh:Int}{c:Nat}(H:AllH v vp s p b sh f m i c h)(K:KnownCap v)(L:KnownCap vp):AllH v vp s p b sh f m i c h.freeze:=
 ⟨kbN H.s K,kbN H.r L,jdS H.g0,jdS H.g1,jdS H.g2,jdS H.g3,jdS H.g4,jdS H.g5⟩
theorem jpw{P:Nat->AProm}{V:Nat->AV}(hP:∀i,(P i).blk=none)(hV:∀i n,(P i).av n=V i){ic b dst:Nat}{rem:List Nat}{Hs H h Hc:Heap}{T:Nat->AV}{K:Gh->St->Prop}{vs:List AV}(hic:h.size<=ic)(h1:HSub h Hc)(h2:HSub Hc Hs)(hb:Hs.size<=b)(hbz:b<H.size)(hg:H.get b=some (.cells vs true 0))
  (hK:∀g' H' A e B,rem=A++e::B->H'.get b=some (.cells vs true 0)->H'.size=H.size->(A++B=[]->g'=.idle/\HSub h H')->(A++B≠[]->g'=.busy ic ((A++B).map P) Hs/\H'=H)->
   K g' ⟨upd T dst (V e),H',[]⟩):jof (.busy ic (rem.map P) Hs) (.chan ic) (some dst) K ⟨T,H,[]⟩:=by
 refine⟨rfl,fun A q B hAB=>?_⟩;obtain⟨A1,e,B1,hr,rfl,rfl,rfl⟩:=jl6 hAB;have z1:=h1.size;have z2:=h2.size;have el:∀X:Heap,(P e).land X=X:=fun X=>by unfold AProm.land;rw[hP]
 rw[el,el,hV];constructor
 ·intro hne;refine hK (.busy ic (A1.map P++B1.map P) Hs) H A1 e B1 hr hg rfl ?_ ?_
  ·intro h0;exfalso;obtain⟨a,b⟩:=List.append_eq_nil_iff.1 h0;subst a;subst b;exact hne rfl
  ·intro _;exact⟨by rw[List.map_append],rfl⟩
 ·intro h0;have hAB0:A1++B1=[]:=by
   obtain⟨a,b⟩:=List.append_eq_nil_iff.1 h0;rw[List.map_eq_nil_iff.1 a,List.map_eq_nil_iff.1 b];rfl
  have gT:∀i,i<Hs.size->i≠ic->(Hs.thaw ic H).get i=Hs.get i:=fun i hi hne=>by
   show(if i<H.size then(if i<Hs.size then(if i=ic then some .dead else Hs.get i)else _)else none)=_;rw[if_pos (by omega),if_pos hi,if_neg hne]
  refine hK .idle (Hs.thaw ic H) A1 e B1 hr ?_ rfl ?_ ?_
  ·show(if b<H.size then(if b<Hs.size then _ else(H.get b).map fun x=>if x.wr then x else .dead)else none)=_;rw[if_pos hbz,if_neg (by omega),hg];rfl
  ·intro _;refine⟨rfl,⟨by show h.size<=H.size;omega,fun i hi=>?_⟩⟩;rw[gT i (by omega) (by omega),h2.get i (by omega),h1.get i hi]
  ·intro hne;exact absurd hAB0 hne
theorem jsW(hC:Has C TA){v vp:AV}{p:PlanP}{s:List (Int×Int)}{b sh f:Int}{m i:Nat}{H:Heap}{t:Nat->AV}{Q:Out->Gh->St->Prop}(hs:SI H v s)(Ks:KnownCap v)(R:RI H vp p.prns)(Kp:KnownCap vp)(A:∀prn∈p.prns,AcOk p s prn)(pk:PlanOk p)(g0:gErr b sh=0)(hf:0<=f/\f<=1048576)(hm:1<=m/\m<=16)
  (a0:∃w u,H.get i=some (.cells [v] w u)) (a1:∃w u,H.get (i+1)=some (.cells [.int .i64 p.d,.int .i64 p.o,.int .i64 p.pb,.int .i64 p.w,.int .i64 p.mn,.int .i64 p.mx,.int .i64 p.nz,vp] w u)) (a2:∃w u,H.get (i+2)=some (.cells [.int .i64 b,.int .i64 sh] w u)) (a3:∃w u,H.get (i+3)=some (.cells [.int .i64 f] w u)) (a4:∃w u,H.get (i+4)=some (.cells [.int .i64 (m:Nat)] w u))
  (e5:t 5=.ptr i 0) (e6:t 6=.ptr (i+1) 0) (e7:t 7=.ptr (i+2) 0) (e8:t 8=.ptr (i+3) 0) (e9:t 9=.ptr (i+4) 0)
  (hfin:∀t' h' w,t' 10=w->t' 11=.int .i64 0->HSub H h'->HI h' w (hitsL p sh s f m p.prns)->Q .ret .idle ⟨t',h',[]⟩):
  WM C 84 (seqR (seqR (seqR B397.code))) Q .idle ⟨t,H,[]⟩:=by
 have Rl:=R.len;have l8:=pk.len;have v1:=R.one;have q7:([.int .i64 p.d,.int .i64 p.o,.int .i64 p.pb,.int .i64 p.w,.int .i64 p.mn,.int .i64 p.mx,.int .i64 p.nz,vp]:List AV)[7]? =some vp:=rfl;simp only[B397,seqR,zB];refine ka7 (ka6 ?_);refine kaS rfl (by decide) ?_;show WMo C 84 _ _ .idle ⟨upd t 41 (.chan H.size),H.push .chan,[]⟩;refine kaS rfl (by decide) ?_;show WMo C 84 _ _ .idle ⟨upd (upd t 41 (.chan H.size)) 13 (.ptr (H.size+1) 0),(H.push .chan).push (.cells [.nilchan] true 0),[]⟩;refine kaS rfl (by decide) ?_;have st1:jem ((H.push .chan).push (.cells [.nilchan] true 0)) 1 (.ptr (H.size+1) 0) (.chan H.size)=some ((H.push .chan).push (.cells [.chan H.size] true 0)):=by
  have g:((H.push .chan).push (.cells [.nilchan] true 0)).get (H.size+1)=some (.cells [.nilchan] true 0):=get_push_eq rfl;simp only[jem,g];rw[if_pos ⟨rfl,by simp,rfl⟩];simp only[AV.cells,splice,List.set_cons_zero];rw[push_put (h:=H.push .chan) (i:=H.size+1) rfl]
 show(match (jem ((H.push .chan).push (.cells [.nilchan] true 0)) 1 (.ptr (H.size+1) 0) (.chan H.size)).map fun h'=>(AV.undef,h')with|some (v,h')=>WMo C 84 _ _ .idle (St.put ⟨upd (upd t 41 (.chan H.size)) 13 (.ptr (H.size+1) 0),h',[]⟩ none v)|none=>False);rw[st1];refine kbi ?_;show WM C 84 _ Q .idle ⟨upd (upd t 41 (.chan H.size)) 13 (.ptr (H.size+1) 0),(H.push .chan).push (.cells [.chan H.size] true 0),[]⟩;have sHc:=(kac H .chan).push (.cells [.chan H.size] true 0);have gic:((H.push .chan).push (.cells [.chan H.size] true 0)).get H.size=some .chan:=by rw[kap,if_neg (by simp),kap,if_pos rfl]
 have AH:AllH v vp s p b sh f m i H.size ((H.push .chan).push (.cells [.chan H.size] true 0)):=⟨hs.mono sHc,R.mono sHc,jbr sHc a0,jbr sHc a1,jbr sHc a2,jbr sHc a3,jbr sHc a4,⟨_,_,get_push_eq rfl⟩⟩;have zc:((H.push .chan).push (.cells [.chan H.size] true 0)).size=H.size+2:=by simp
 generalize hHc:(H.push .chan).push (.cells [.chan H.size] true 0)=Hc at*;obtain⟨w1,u1,g1⟩:=AH.g1;refine ka7 ?_;refine kaF fun ph=>?_;refine zs4 e6 g1 q7 Rl ?_;have hP:∃P:Nat->AProm,P=fun j=>fndP j (hitQ p s f m (p.prns.getD j 0)) (clmQ p sh s f m (p.prns.getD j 0)):=⟨_,rfl⟩;obtain⟨P,hP⟩:=hP;generalize hN:p.prns.length=N at*;refine ka4 ?_;refine kbB (fun j g st=>∃k:Nat,k<=N/\j=N-k/\st.m=[]/\st.t 5=.ptr i 0/\st.t 6=.ptr (i+1) 0/\st.t 7=.ptr (i+2) 0/\st.t 8=.ptr (i+3) 0/\st.t 9=.ptr (i+4) 0/\st.t 13=.ptr (H.size+1) 0/\st.t 43=vp/\st.t 44=.int .i64 (N:Nat)/\st.t 45=.int .i64 (k:Nat)/\
  AllH v vp s p b sh f m i H.size st.h/\Hc.size<=st.h.size/\st.h.ok H.size/\(k=0->g=.idle/\st.h=Hc)/\(0<k->∃Hs,g=.busy H.size ((List.range k).map P) Hs/\HSub Hc Hs/\Hs.size<=st.h.size)) (j0:=N)
  ⟨0,by omega,rfl,rfl,e5,e6,e7,e8,e9,rfl,rfl,rfl,rfl,AH,Nat.le_refl _,by simp[Heap.ok,gic],fun _=>⟨rfl,rfl⟩,fun q=>absurd q (Nat.lt_irrefl 0)⟩ ?_
 rintro j g ⟨u,X,mk⟩ ⟨k,hk,hj,hm0,f5,f6,f7,f8,f9,f13,f43,f44,f45,AX,zX,okX,k0,k1⟩;dsimp only at hm0 f5 f6 f7 f8 f9 f13 f43 f44 f45 AX zX okX k0 k1;subst hm0;refine kaF fun ph=>?_;refine zs2 f44 f45 ?_;refine kaF fun ph=>?_;refine zs ?_;refine kaf (fun c2=>?_) (fun c2=>?_)
 ·have hk':k<N:=by omega
  have ix:=AX.r.idx (kk:=.i64) (k:=((k:Nat):Int)) ⟨by omega,by omega⟩;rw[Int.toNat_natCast]at ix;have ld:=fun X2 (q:HSub X X2)=>(AX.r.mono q).load (k:=k) (by omega);have rf:=kag X;refine zs ?_;refine ka7 (ka4 ?_);refine kaF fun ph=>?_;refine zs4 f43 f45 ix ld ?_;refine ka6 (kaS rfl (by decide) ?_);refine zs6 f5 f6 f7 f8 f9 f13 ?_;refine kbV ?_;have hs9:=(kac X (.cells [.int .i64 (k:Nat)] true 0)).push (.cells [.int .i64 (p.prns.getD k 0)] true 0);have g14:((X.push (.cells [.int .i64 (k:Nat)] true 0)).push (.cells [.int .i64 (p.prns.getD k 0)] true 0)).get X.size=some (.cells [.int .i64 (k:Nat)] true 0):=by rw[kap,if_neg (by simp)];exact get_push_eq rfl
  have g15:((X.push (.cells [.int .i64 (k:Nat)] true 0)).push (.cells [.int .i64 (p.prns.getD k 0)] true 0)).get (X.size+1)=some (.cells [.int .i64 (p.prns.getD k 0)] true 0):=get_push_eq rfl;have z9:((X.push (.cells [.int .i64 (k:Nat)] true 0)).push (.cells [.int .i64 (p.prns.getD k 0)] true 0)).size=X.size+2:=by simp
  generalize hX9:(X.push (.cells [.int .i64 (k:Nat)] true 0)).push (.cells [.int .i64 (p.prns.getD k 0)] true 0)=X9 at*;have A9:=AX.mono hs9;have ok9:X9.ok H.size:=by
   have hlt:=kaA okX;simp only[Heap.ok]at okX|-;rw[hs9.get _ hlt];exact okX
  show wpGo C g (.func 406 [] [.ptr i 0,.ptr (i+1) 0,.ptr (X.size+1) 0,.ptr (i+3) 0,.ptr (i+4) 0,.ptr (i+2) 0,.ptr (H.size+1) 0,.ptr X.size 0]) [] none _ _;refine⟨H.size,P k,?_,by rw[hP];exact fndP_ok _ _ _,?_,?_⟩
  ·rcases Nat.eq_zero_or_pos k with q|q
   ·obtain⟨rfl,hHH⟩:=k0 q;have gi:X9.get H.size=Hc.get H.size:=by rw[hs9.get H.size (kaA okX),hHH]
    exact gi.trans gic
   ·obtain⟨Hs,rfl,_⟩:=k1 q;rfl
  ·obtain⟨F1,F2,⟨_,_,F3⟩,⟨_,_,F4⟩,⟨_,_,F5⟩,⟨_,_,F6⟩,⟨_,_,F7⟩,⟨_,_,F8⟩⟩:=A9.frz Ks Kp;rw[hP];exact jud hC F1 F2 (A _ (jam (by omega))) g0 hf hm F3 F4 (jeL g15) F6 F7 F5 F8 (jeL g14) ((jiG _ _).2 ok9)
  ·refine kbi ?_;refine kaN fun ph=>?_;show wp _ _ _ _ _ ⟨_,X9.freeze,[]⟩;refine zs1 f45 ?_;have zz:(X9.freeze).size=X9.size:=rfl;refine⟨_,by omega,k+1,by omega,rfl,f5,f6,f7,f8,f9,f13,f43,f44,by simp,A9.frz Ks Kp,by omega,(jiG _ _).2 ok9,fun q=>absurd q (by omega),fun _=>?_⟩;rcases Nat.eq_zero_or_pos k with q|q
   ·obtain⟨rfl,hHH⟩:=k0 q;subst q;exact⟨X9,by simp[jiH],by rw[<-hHH];exact hs9,Nat.le_refl _⟩
   ·obtain⟨Hs,rfl,hHs,hHz⟩:=k1 q;exact⟨Hs,by simp[jiH,List.range_succ],hHs,by omega⟩
 ·refine zs ?_;rw[if_pos trivial];obtain rfl:k=N:=by omega
  obtain⟨w2,u2,g2⟩:=AX.g1;refine kaF fun ph=>?_;refine zs4 f6 g2 q7 Rl ?_;have l2:=kab g2;have zHc:=sHc.size;have hF:∃F:Nat->List AV,F=fun j=>[.int .i64 (j:Nat),.int .i64 (hitQ p s f m (p.prns.getD j 0)).1,.int .i64 (hitQ p s f m (p.prns.getD j 0)).2.1,.int .i64 (hitQ p s f m (p.prns.getD j 0)).2.2.1,.int .i64 (hitQ p s f m (p.prns.getD j 0)).2.2.2,.bool (clmQ p sh s f m (p.prns.getD j 0))]:=⟨_,rfl⟩;obtain⟨F,hF⟩:=hF;have F6:∀j,(F j).length=6:=fun j=>by rw[hF];rfl
  have Fe:∀j,F j=[.int .i64 (j:Nat),.int .i64 (hitQ p s f m (p.prns.getD j 0)).1,.int .i64 (hitQ p s f m (p.prns.getD j 0)).2.1,.int .i64 (hitQ p s f m (p.prns.getD j 0)).2.2.1,.int .i64 (hitQ p s f m (p.prns.getD j 0)).2.2.2,.bool (clmQ p sh s f m (p.prns.getD j 0))]:=fun j=>by rw[hF]
  have PF:∀j n,(P j).av n=.agg [.int .i64 (j:Nat),.int .i64 (hitQ p s f m (p.prns.getD j 0)).1,.int .i64 (hitQ p s f m (p.prns.getD j 0)).2.1,.int .i64 (hitQ p s f m (p.prns.getD j 0)).2.2.1,.int .i64 (hitQ p s f m (p.prns.getD j 0)).2.2.2,.bool (clmQ p sh s f m (p.prns.getD j 0))]:=fun j n=>by rw[hP];rfl
  have rz:jbo k [.int .i64 0,.int .i64 0,.int .i64 0,.int .i64 0,.int .i64 0,.bool false]=resC F k []:=jsU;refine ka7 ?_;refine kaF fun ph=>?_;refine zs4 f6 g2 q7 Rl ?_;refine ka4 ?_;refine kbB (fun j g st=>∃(D rem:List Nat),(D++rem).Perm (List.range k)/\j=rem.length/\st.m=[]/\st.t 13=.ptr (H.size+1) 0/\st.t 16=.slice X.size 0 k (.known k)/\st.t 58=.int .i64 (k:Nat)/\st.t 59=.int .i64 (D.length:Nat)/\st.h.get X.size=some (.cells (resC F k D) true 0)/\X.size<st.h.size/\
   (rem=[]->g=.idle/\HSub H st.h)/\(rem≠[]->∃Hs,g=.busy H.size (rem.map P) Hs/\HSub Hc Hs/\Hs.size<=X.size/\∃wr u,st.h.get (H.size+1)=some (.cells [.chan H.size] wr u))) (j0:=k)
   ⟨[],List.range k,List.Perm.refl _,by simp,rfl,f13,rfl,rfl,rfl,by rw[<-rz];exact get_push_eq rfl,by simp,fun q=>?_,fun q=>?_⟩ ?_
  ·obtain⟨rfl,hHH⟩:=k0 (by simpa using congrArg List.length q);exact⟨rfl,by rw[hHH];exact sHc.push _⟩
  ·obtain⟨Hs,rfl,hHs,hHz⟩:=k1 (by
    rcases Nat.eq_zero_or_pos k with z|z
    ·subst z;exact absurd rfl q
    ·exact z)
   exact⟨Hs,rfl,hHs,hHz,jbr (kac X _) AX.g5⟩
  rintro j3 g3 ⟨u2,H2,mk2⟩ ⟨D,rem,hperm,hj2,hm2,r13,r16,r58,r59,gb,zb,i0,i1⟩;dsimp only at hm2 r13 r16 r58 r59 gb zb i0 i1;subst hm2;have hlen:=hperm.length_eq;rw[List.length_append,List.length_range]at hlen;refine kaF fun ph=>?_;refine zs2 r58 r59 ?_;refine kaF fun ph=>?_;refine zs ?_;refine kaf (fun c3=>?_) (fun c3=>?_)
  ·have hrem:rem≠[]:=by rintro rfl;simp at hlen;omega
   obtain⟨Hs,rfl,hHs,hHz,wr',uu',gc2⟩:=i1 hrem;refine zs ?_;refine ka7 (ka4 ?_);refine ka7 (ka6 ?_);refine kaS rfl (by decide) ?_;refine zs2 r13 gc2 ?_;refine kbI ?_;show jof (.busy H.size (rem.map P) Hs) (.chan H.size) (some 62) _ ⟨_,H2,[]⟩;refine jpw (fun j=>by rw[hP];rfl) PF (h:=H) (Hc:=Hc) (b:=X.size) (Nat.le_refl _) sHc hHs hHz zb gb fun g4 H3 A e B hr gb3 z3 hlast hmore=>?_;have hpe:(D++e::(A++B)).Perm (List.range k):=by
    rw[hr]at hperm;exact(List.Perm.append_left D (List.perm_middle.symm)).trans hperm
   have hek:e<k:=List.mem_range.1 (hpe.subset (by simp));have sp:=jrk F6 (D:=D) hek;rw[Fe e]at sp;have rl:=jsV F6 (N:=k) (D:=D);have sb:=fun hh:Heap=>storeB_agg (h:=hh) (i:=X.size) (n:=6) (o:=e*6) (u:=0) (vs:=resC F k D) (xs:=[.int .i64 (e:Nat),.int .i64 (hitQ p s f m (p.prns.getD e 0)).1,.int .i64 (hitQ p s f m (p.prns.getD e 0)).2.1,.int .i64 (hitQ p s f m (p.prns.getD e 0)).2.2.1,.int .i64 (hitQ p s f m (p.prns.getD e 0)).2.2.2,.bool (clmQ p sh s f m (p.prns.getD e 0))]) rfl (by rw[rl];omega) rfl;rw[sp]at sb;have sb:=fun hh=>sb hh;refine kaS rfl (by decide) ?_
   refine zs ?_;refine kaS rfl (by decide) ?_;refine zs ?_;refine kbi ?_;refine kaN fun ph=>?_;refine zs3 r16 gb3 sb ?_;have hD1:(D++[e]).length=D.length+1:=by simp
   refine kaN fun ph=>?_;refine zs1 r59 ?_;refine⟨(A++B).length,by rw[hj2,hr];simp,D++[e],A++B,by rw[List.append_assoc];exact hpe,rfl,r13,r16,r58,by rw[hD1];omega,rfl,by omega,fun q=>?_,fun q=>?_⟩
   ·obtain⟨x1,x2⟩:=hlast q;exact⟨x1,(x2.put (by omega) _).push _⟩
   ·obtain⟨x1,rfl⟩:=hmore q;exact⟨Hs,x1,hHs,hHz,wr',uu',gc2⟩
  ·have hrem:rem=[]:=List.eq_nil_of_length_eq_zero (by omega);subst hrem;obtain⟨rfl,hsub⟩:=i0 rfl;refine zs ?_;rw[if_pos trivial];refine kaN fun ph=>?_;rw[List.append_nil]at hperm;rw[jrl hperm]at gb;refine zs1 r16 ?_;have tz:hitsL p sh s f m (p.prns.take 0)=[]:=rfl;have ta:p.prns.take k=p.prns:=by rw[<-hN];exact List.take_length
   have rl:=jhy F6 (List.range k);rw[List.length_range]at rl;refine jae (fun j t h'=>∃q:Nat,GrwH H2 h' (t 18) (hitsL p sh s f m (p.prns.take q))/\t 69=.slice X.size 0 k (.known k)/\t 70=.int .i64 (k:Nat)/\t 71=.int .i64 (q:Nat)/\q<=k/\j=k-q) (j0:=k)
    ⟨0,by rw[tz];exact kbL _,rfl,rfl,rfl,by omega,rfl⟩ ?_
   rintro j4 t4 H4 ⟨q,G,x69,x70,x71,hq,hj4⟩;refine zs2 x70 x71 ?_;refine kaf (fun c4=>?_) (fun c4=>?_)
   ·have hq':q<k:=by omega
    have gq:=(G.sub.get _ zb).trans gb;have lb:∀{w u},loadB true 6 (q*6) (some (.cells ((List.range k).flatMap F) w u))=some (.agg (F q)):=fun{w u}=>by
     show partA true _ _ _=_;simp only[partA,if_true];rw[if_pos (by rw[rl];omega),jsT F6 hq']
    rw[Fe q]at lb;have eL:=jpp (p:=p) (sh:=sh) (s:=s) (f:=f) (m:=m) (l:=p.prns) (k:=q) (by omega);have hl:=joc p sh s f m (p.prns.take q);have tl:(p.prns.take q).length<=8:=by rw[List.length_take];omega
    have zG:=G.sub.size;have eQ:hitQ p s f m (p.prns.getD q 0)=((hitQ p s f m (p.prns.getD q 0)).1,(hitQ p s f m (p.prns.getD q 0)).2.1,(hitQ p s f m (p.prns.getD q 0)).2.2.1,(hitQ p s f m (p.prns.getD q 0)).2.2.2):=rfl;by_cases cq:clmQ p sh s f m (p.prns.getD q 0)=true
    ·rw[if_pos cq]at eL;rw[cq]at lb;have ap:=fun b1 b2=>G.app (a:=(hitQ p s f m (p.prns.getD q 0)).1) (b:=(hitQ p s f m (p.prns.getD q 0)).2.1) (c:=(hitQ p s f m (p.prns.getD q 0)).2.2.1) (d:=(hitQ p s f m (p.prns.getD q 0)).2.2.2) ((H4.push b1).push b2) ((kac H4 b1).push b2) (by omega);have sn:=fun b1 b2=>G.snoc (x:=hitQ p s f m (p.prns.getD q 0)) (H:=(H4.push b1).push b2) ((kac H4 b1).push b2) (by omega);rw[<-eQ,<-eL]at ap;rw[<-eL]at sn;refine zs7 x69 x71 gq @lb @cont_slice @jt7 ap ?_;exact⟨_,⟨q+1,sn _ _,x70,by simp,by omega,rfl⟩,by omega⟩
    ·rw[if_neg cq]at eL;rw[Bool.eq_false_iff.2 cq]at lb;refine zs4 x69 x71 gq @lb ?_;exact⟨_,⟨q+1,by rw[eL];exact Grw.mono G (kac _ _),x70,by simp,by omega,rfl⟩,by omega⟩
   ·obtain rfl:q=k:=by omega
    refine zs ?_;rw[ta]at G;exact hfin _ _ _ rfl rfl (hsub.trans G.sub) G.hi
theorem jhz(hC:Has C TA){v vp:AV}{p:PlanP}{s:List (Int×Int)}{b sh f m:Int}{h:Heap}(hs:SI h v s)(Ks:KnownCap v)(R:RI h vp p.prns)(Kp:KnownCap vp)(p64:p.ok64)(hf:In64 f)(hm:In64 m):
  ACalls C.main0 397 [v,plA p vp,gA b sh,.int .i64 f,.int .i64 m] h (jl4 p b sh s f m h):=by
 have v1:=R.one;have vs1:=hs.one;have vc:=hs.cells;have kp:=fun ph H (q:HSub h H)=>jbH (hC.at ph) (h:=H) (p:=p) ⟨vp,rfl,R.mono q⟩ p64;have kg:=fun ph H=>jdd (hC.at ph) (h:=H) (b:=b) (s:=sh);have ks:=fun ph H (q:HSub h H)=>jbM (hC.at ph) (h:=H) (hs.mono q);have kl:=fun ph H=>jbX (hC.at ph) (h:=H) (f:=f) (m:=m);have k1:=fun ph H i u (g:H.get i=some (.cells (ints [p.err,gErr b sh,sampE s,placE f m]) true u))=>jck (hC.at ph) (h:=H) (l:=[p.err,gErr b sh,sampE s,placE f m]) (v:=.slice i 0 4 (.known 4)) (kah g ⟨rfl,by simp⟩ (by simp)) (by simp)
 refine jpr (hC.body (by decide) (by rfl:tab 397=some B397)) (Nat.le_of_ble_eq_true rfl) ?_;show WM C _ B397.code _ _ _;simp only[B397,zB];unfold jl4;by_cases c:firstE [p.err,gErr b sh,sampE s,placE f m]=0
 ·rw[c]at k1;have z:=jcu c;have ao:=acOkA (f:=f) (m:=m) p64 (z _ (by simp)) (z (sampE s) (by simp)) (z (placE f m) (by simp));have g0:=z (gErr b sh) (by simp);obtain⟨⟨A,pk,hl2⟩,hf',hm'⟩:=ao;have l8:=pk.len;have ee:jfg p b sh s f m=if fitB s p f m=true then 0 else 16:=by unfold jfg;rw[c,if_neg (by decide)]
  have eM:∃k:Nat,m=(k:Int):=⟨m.toNat,by omega⟩;obtain⟨mn,rfl⟩:=eM;have kF:=fun ph H (q:HSub h H)=>jeG (hC.at ph) (p:=p) (h:=H) (hs.mono q) v1 pk.nums hf' hm';rw[ee];clear ee z;unfold plA gA at*;cases hB:fitB s p f mn with
  |false=>
   rw[hB]at kF;simp only[Bool.false_eq_true,if_false,show ¬(16:Int)=0 by decide];refine kaN fun ph=>?_;refine zs1 vc ?_;refine kaa (kp _ _ zr) (zs ?_);refine kaa (kg _ _) (zs ?_);refine kaa (ks _ _ zr) (zs ?_);refine kaa (kl _ _) (zs1 @Heap.wf ?_);refine kaa (k1 _ _ _ 0 (by refine zs ?_;rfl)) ?_;refine zs ?_;refine kaa (kF _ _ zr) (zs1 @jai.eq_1 ?_);exact⟨_,rfl,zr,rfl,by decide,.inl ⟨rfl,rfl⟩⟩
  | true =>
   rw[hB]at kF;simp only[if_true];refine kaF fun ph=>?_;refine zs1 vc ?_;refine kaF fun ph=>?_;refine zs ?_;refine kaa (kp _ _ zr) (zs ?_);refine kaa (kg _ _) (zs ?_);refine kaa (ks _ _ zr) (zs ?_);refine kaa (kl _ _) (zs1 @Heap.wf ?_);refine kaa (k1 _ _ _ 0 (by refine zs ?_;rfl)) ?_;refine zs ?_;refine kaF fun ph=>?_;refine zs ?_;refine kal (fun H hH=>?_);have g5:H.get h.size=some (.cells [v] true 0):=by rw[hH];exact ze
   have g6:H.get (h.size+1)=some (.cells [.int .i64 p.d,.int .i64 p.o,.int .i64 p.pb,.int .i64 p.w,.int .i64 p.mn,.int .i64 p.mx,.int .i64 p.nz,vp] true 0):=by rw[hH];exact ze
   have g7:H.get (h.size+2)=some (.cells [.int .i64 b,.int .i64 sh] true 0):=by rw[hH];exact ze
   have g8:H.get (h.size+3)=some (.cells [.int .i64 f] true 0):=by rw[hH];exact ze
   have g9:H.get (h.size+4)=some (.cells [.int .i64 (mn:Nat)] true 0):=by rw[hH];exact ze
   have hsH:HSub h H:=by rw[hH];exact zr
   clear hH;refine kaa (kF _ _ hsH) (zs ?_);exact jsW hC (i:=h.size) (hs.mono hsH) Ks (R.mono hsH) Kp A pk g0 hf' (by omega) ⟨_,_,g5⟩ ⟨_,_,g6⟩ ⟨_,_,g7⟩ ⟨_,_,g8⟩ ⟨_,_,g9⟩ rfl rfl rfl rfl rfl (fun t' h' w x10 x11 hs' hw=>⟨rfl,by
    show ∃w',AV.tuple [t' 10,t' 11]=jai w' 0/\_;rw[x10,x11];exact⟨w,rfl,hsH.trans hs',hw⟩⟩)
 ·have ee:jfg p b sh s f m=firstE [p.err,gErr b sh,sampE s,placE f m]:=by unfold jfg;rw[if_pos c]
  rw[ee,if_neg c];clear ee;generalize firstE [p.err,gErr b sh,sampE s,placE f m]=E at*;unfold plA gA at*;refine kaN fun ph=>?_;refine zs1 vc ?_;refine kaa (kp _ _ zr) (zs ?_);refine kaa (kg _ _) (zs ?_);refine kaa (ks _ _ zr) (zs ?_);refine kaa (kl _ _) (zs1 @Heap.wf ?_);refine kaa (k1 _ _ _ 0 (by refine zs ?_;rfl)) ?_;refine zs2 c @jai.eq_1 ?_;exact⟨_,rfl,zr,rfl,by decide,.inl ⟨rfl,rfl⟩⟩
theorem jsX{l:List (Int×Int)}(h:smE l m=0):l.length<=m/\∀x∈l,inS 1048576 x:=by
 unfold smE at h;split at h
 ·omega
 ·split at h
  ·exact⟨by omega,by assumption⟩
  ·omega
theorem jrm(l:List (Int×Int))(m:Nat):smE l m=0\/smE l m=2\/smE l m=4:=by
 unfold smE;split
 ·simp
 ·split<;>simp
theorem jsY(b:Int):([1,2,4,8,16,32,64].any fun y=>b==y)=decide (jcJ b):=by
 have k:([1,2,4,8,16,32,64].any fun y=>b==y)=true↔jcJ b:=by unfold jcJ;simp
 by_cases c:jcJ b
 ·rw[decide_eq_true c];exact k.2 c
 ·rw[decide_eq_false c];exact Bool.eq_false_iff.2 fun q=>c (k.1 q)
theorem jpx{l:List (Int×Int)}{k:Nat}(h:k<m):(jdM l b k++List.replicate (m-k) 0).set k (stepP l b k)=jdM l b (k+1)++List.replicate (m-(k+1)) 0:=by
 rw[List.set_append_right _ _ (by rw[jch];omega),jch,Nat.sub_self,show m-k=m-(k+1)+1 by omega,List.replicate_succ,List.set_cons_zero,jmQ,List.append_assoc];rfl
theorem jsZ:U32 ((j:Int)*(4294967296/b)% 4294967296):=by unfold U32;omega
theorem jpy(hC:Has C TA){v:AV}{l:List (Int×Int)}{b:Int}{h:Heap}(hl:SI h v l)(hb:In64 b):
  ACalls C 270 [v,.int .i64 b] h (fun r h'=>∃w,r=jai w (je6 l b)/\HSub h h'/\RI h' w (if je6 l b=0 then jdM l b b.toNat else[])):=by
 have k1:=fun h1 (q:HSub h h1)=>jo4 hC (most:=16) (hl.mono q) (by omega);have cc:=jrm l 16;by_cases c:smE l 16=0
 ·have z:=jsX c;rw[c]at k1;have k2:=fun(st:Int) (hst:U32 st) h1 (q:HSub h h1)=>jq1 (st:=st) hC (hl.mono q) z.1 z.2 hst;have k3:=fun p h=>jo5 (p:=p) (h:=h) hC;have k4:=fun h1 (q:RI h1 (.slice h.size 0 7 (.known 7)) [1,2,4,8,16,32,64])=>jbD hC (x:=b) q;simp only[jsY]at k4;refine zf 270 B270 hC ?_;simp only[B270,zB];refine zs ?_;refine kaa (k1 _ (kag _)) (zs ?_);refine kaa (k4 _ (kah (get_push_eq rfl) ⟨rfl,by decide⟩ (by decide))) ?_;by_cases c2:jcJ b
  ·have e:je6 l b=0:=by unfold je6;rw[if_neg (by omega),if_pos c2]
   have hb2:1<=b/\b<=64:=by unfold jcJ at c2;omega
   obtain⟨m,rfl⟩:=Int.eq_ofNat_of_zero_le (show 0<=b by omega);rw[e,if_pos rfl,Int.toNat_natCast];refine zs2 @c2 @ja0 ?_;refine jae (fun j t h'=>HSub h h'/\h.size+1<h'.size/\∃k:Nat,h'.get (h.size+1)=some (.cells (ints (jdM l m k++List.replicate (m-k) 0)) true 0)/\t 0=v/\t 1=.int .i64 (m:Nat)/\t 7=.slice (h.size+1) 0 m (.known m)/\t 21=.int .i64 (m:Nat)/\t 22=.int .i64 (k:Nat)/\k<=m/\j=m-k) (j0:=m)
    ⟨(kac _ _).push _,by simp,0,by refine zs ?_;rfl,rfl,rfl,rfl,rfl,rfl,by omega,rfl⟩ ?_
   rintro j t h1 ⟨s1,hz,k,gb,e0,e1,e7,e21,e22,hk,hj⟩;refine zs2 e21 e22 ?_;refine kaf (fun c3=>?_) (fun c3=>?_)
   ·have hk':k<m:=by omega
    have hu:=jsZ (j:=k) (b:=(m:Int));have k2:=k2 _ hu h1 s1;have es:stepP l m k=powP (spinK l ((k:Int)*(4294967296/(m:Int))% 4294967296) l.length):=rfl;have sz:=jpx (l:=l) (b:=(m:Int)) hk';rw[es]at sz;have q0:(4294967296:Int).tdiv (m:Int)=4294967296/(m:Int):=Int.tdiv_eq_ediv_of_nonneg (by decide);have Q1:0<=4294967296/(m:Int):=Int.ediv_nonneg (by decide) (by omega);have Q2:4294967296/(m:Int)<=4294967296:=Int.ediv_le_self _ (by decide);have kQ:0<=(k:Int)*(4294967296/(m:Int))/\(k:Int)*(4294967296/(m:Int))<=64*4294967296:=⟨Int.mul_nonneg (by omega) Q1,Int.mul_le_mul (by omega) Q2 Q1 (by decide)⟩
    have zl:(jdM l m k++List.replicate (m-k) 0).length=m:=by simp[jch];omega
    generalize hQ:4294967296/(m:Int)=Q at*;refine zs7 e0 e1 e7 e22 q0 @hQ @jke ?_;refine kaa k2 (zs ?_);refine kaa (k3 _ _) (zs7 e0 e1 e7 e21 e22 gb (zI sz zl) ?_);exact⟨_,⟨(zh s1),hz,k+1,rfl,by simp,by omega,rfl⟩,by omega⟩
   ·have ek:k=m:=by omega
    subst ek;rw[Nat.sub_self,List.replicate_zero,List.append_nil]at gb;refine zs1 e7 ?_;exact⟨_,rfl,s1,kah gb ⟨(jch _ _ _).symm,by omega⟩ (Nat.le_refl _)⟩
  ·have e:je6 l b=3:=by unfold je6;rw[if_neg (by omega),if_neg c2]
   rw[e,if_neg (by decide)];refine zs1 @c2 ?_;exact⟨_,rfl,kac _ _,kav⟩
 ·have e:je6 l b=smE l 16:=by unfold je6;rw[if_pos c]
  rw[e,if_neg c];generalize smE l 16=e at*;refine zf 270 B270 hC ?_;simp only[B270,zB];refine zs ?_;refine kaa (k1 _ (kag _)) (zs1 c ?_);exact⟨_,rfl,kag _,kav⟩
def winE(s:List (Int×Int))(d o p a many:Int):Int:=manyE (bankErr s d o p a) many 1000
theorem joj{k L:Nat}(hk:k<=1000)(hL:L<=8184):0<=(k:Int)*(L:Int)/\(k:Int)*(L:Int)<=8184000:=by
 have:k*L<=1000*8184:=Nat.mul_le_mul hk hL;have e:(k:Int)*(L:Int)=((k*L:Nat):Int):=(Int.natCast_mul k L).symm;omega
theorem jiI(hC:Has C TA){a L m:Int}{h:Heap}:ACalls C 298 [.int .i64 a,.int .i64 L,.int .i64 m] h (fun r h'=>r=.func 304 [] [.ptr (h.size+2) 0,.ptr h.size 0,.ptr (h.size+1) 0]/\
  h'=((h.push (.cells [.int .i64 a] true 0)).push (.cells [.int .i64 L] true 0)).push (.cells [.int .i64 m] true 0)):=by
 refine zf 298 B298 hC ?_;simp only[B298,zB];exact ze
theorem jiJ(hC:Has C TA){l bm ba bs m L:Nat}{a:Int}{h:Heap}(hm:m<=1000)(hL:L<=8184)(ha: -10000000<=a/\a<=10000000)(J:Nat->Heap->Prop)(D:Heap->Prop)(h0:J 0 h)
  (hb:∀k h',J k h'->h'.get bm=some (.cells [.int .i64 (m:Nat)] true 0)/\h'.get ba=some (.cells [.int .i64 a] true 0)/\h'.get bs=some (.cells [.int .i64 (L:Nat)] true 0))
  (hy:∀k h',J k h'->k<m->jfR C l [.int .i64 (k:Nat),.int .i64 (a+(k:Nat)*(L:Nat))] h' (fun r h''=>(r=.bool true/\J (k+1) h'')\/(r=.bool false/\D h'')))
  (hd:∀h',J m h'->D h'):ACalls C 304 [.yield l,.ptr bm 0,.ptr ba 0,.ptr bs 0] h (fun _ h'=>D h'):=by
 obtain⟨g0,g1,g2⟩:=hb 0 h h0;refine zf 304 B304 hC ?_;simp only[B304,zB];refine zs1 g0 ?_;refine jae (fun j t h'=>∃k:Nat,J k h'/\t 0=.yield l/\t 2=.ptr ba 0/\t 3=.ptr bs 0/\t 6=.int .i64 (m:Nat)/\t 7=.int .i64 (k:Nat)/\k<=m/\j=m-k) (j0:=m) ⟨0,h0,rfl,rfl,rfl,rfl,rfl,by omega,rfl⟩ ?_;rintro j t h' ⟨k,hJ,e0,e2,e3,e6,e7,hk,hj⟩;obtain⟨g0,g1,g2⟩:=hb k h' hJ;refine zs2 e6 e7 ?_;refine kaf (fun c=>?_) (fun c=>?_)
 ·have hk':k<m:=by omega
  have wp:=joj (k:=k) (by omega) hL;have hy:=hy k h' hJ hk';generalize hkc:(k:Int)*(L:Int)=kc at*;refine zs7 e0 e2 e3 e7 g1 g2 @hkc ?_;refine kaE hy ?_;rintro r h'' (⟨rfl,hJ'⟩|⟨rfl,hD⟩)
  ·refine zs5 e0 e2 e3 e6 e7 ?_;exact⟨_,⟨k+1,hJ',by simp,by omega,rfl⟩,by omega⟩
  ·refine zs ?_;exact hD
 ·have ek:k=m:=by omega
  subst ek;refine zs ?_;exact hd _ hJ
theorem jl8(hC:Has C TA){v:AV}{s:List (Int×Int)}{d o p a many:Int}{h:Heap}(hs:SI h v s)(hd:In64 d)(ho:In64 o)(hp:In64 p)(ha:In64 a)(hm:In64 many):
  ACalls C 279 [v,.int .i64 d,.int .i64 o,.int .i64 p,.int .i64 a,.int .i64 many] h (fun r h'=>∃w,r=jai w (winE s d o p a many)/\HSub h h'/\SI h' w (if winE s d o p a many=0 then bankL s (sampL d p o.toNat) a (sampL d p o.toNat).length many.toNat else[])):=by
 have kM:=jeF hC hs hd ho hp ha;have v1:=hs.one;unfold In64 at hm;unfold winE manyE;refine zf 279 B279 hC ?_;simp only[B279,zB];refine zs ?_;refine kad kM ?_;rintro r h1 ⟨s1,x,rfl,g0,g1⟩;by_cases c:bankErr s d o p a=0
 ·have ok:=jgH c;obtain⟨w,rfl,R⟩:=g0 c;have w1:=R.one;have sb:=fun(H:Heap) i=>jeX (H:=H) (i:=i) (a:=.nilslice) (b:=.nilslice) v1 w1;rw[c,if_neg (by decide)];unfold corA;by_cases c2:many<0\/1000<many
  ·rw[if_pos c2];refine zs2 @corE.eq_1 sb ?_
   (repeat' (first|(refine kaf (fun _=>?_) (fun _=>?_))|(refine zs1 @gV_u ?_)))
   all_goals first
    |(exfalso;omega)
    |exact⟨_,rfl,(zh s1),kbw⟩
  ·obtain⟨m,rfl⟩:=Int.eq_ofNat_of_zero_le (show 0<=many by omega);have sl:=jkv ok.2.2.1;have kS:=fun(b:Int) (hb: -100000000<=b/\b<=100000000) h2 (q:HSub h1 h2)=>jft hC (a:=b) (hs.mono (s1.trans q)) (R.mono q) ok.2.1 (jaZ _ _ _) (by omega) hb;have hz:=jbv (p:=(0,0)) (n:=m);simp only at hz;rw[if_neg c2,if_pos rfl,Int.toNat_natCast];generalize sampL d p o.toNat=c at*;unfold corA at kS;refine zs5 @corE.eq_1 sb @gV_u hz @R.len ?_;refine kal (fun H hH=>?_);have N:H.size=h1.size+3:=by rw[hH];exact ze
   have gv:H.get h1.size=some (.cells [v,w] true 0):=by rw[hH];exact ze
   have go:H.get (h1.size+1)=some (.cells (smps (List.replicate m (0,0))) true 0):=by rw[hH];exact ze
   have gs:H.get (h1.size+2)=some (.cells [.slice (h1.size+1) 0 m (.known m)] true 0):=by rw[hH];exact ze
   have hsH:HSub h1 H:=by
    rw[hH];exact zr
   clear hH;refine kaa (jiI hC) (zs ?_);refine jb5 (D:=fun h'=>∃R,h'.get (H.size+4)=some (.loop R)/\HSub h1 h'/\h'.get (H.size+3)=some (.defd true)/\H.size+5<=h'.size/\R.state=.ready/\R.pend=none/\
    h'.get (h1.size+2)=some (.cells [.slice (h1.size+1) 0 m (.known m)] true 0)/\h'.get (h1.size+1)=some (.cells (smps (bankL s c a c.length m)) true 0)) ?_ ?_
   ·refine kaq (fun R hR=>?_);show ACalls C 304 [.yield (H.size+4),.ptr (H.size+2) 0,.ptr H.size 0,.ptr (H.size+1) 0] _ _;have rs:R.state=.ready:=by rw[hR]
    have rp:R.pend=none:=by rw[hR]
    have rb:=jdG rs rp;refine jiJ hC (m:=m) (L:=c.length) (a:=a) (by omega) sl (by omega) (fun k h'=>k<=m/\h'.get (H.size+4)=some (.loop R)/\h'.get (H.size+3)=some (.defd true)/\
     h'.get (H.size+2)=some (.cells [.int .i64 (m:Nat)] true 0)/\h'.get H.size=some (.cells [.int .i64 a] true 0)/\h'.get (H.size+1)=some (.cells [.int .i64 (c.length:Nat)] true 0)/\HSub h1 h'/\H.size+5<=h'.size/\
     h'.get h1.size=some (.cells [v,w] true 0)/\h'.get (h1.size+2)=some (.cells [.slice (h1.size+1) 0 m (.known m)] true 0)/\h'.get (h1.size+1)=some (.cells (smps (bankL s c a c.length k++List.replicate (m-k) (0,0))) true 0)) _ ?_ ?_ ?_ ?_
    ·refine⟨by omega,?_,?_,?_,?_,?_,?_,?_,?_,?_,?_⟩
     ·exact ze
     ·exact ze
     ·exact ze
     ·exact ze
     ·exact ze
     ·exact((((hsH.push _).push _).push _).push _).push _
     ·refine zs ?_;omega
     ·exact ze1 gv
     ·exact ze1 gs
     ·refine zs1 go ?_;rfl
    ·rintro k h' ⟨_,_,_,q0,q1,q2,_⟩;exact⟨q0,q1,q2⟩
    ·rintro k h' ⟨hk,hlp,hd,p0,p1,p2,hsub,hsz,gv,gs,go⟩ hk';have wp:=joj (k:=k) (by omega) sl;have bs:=jii (s:=s) (c:=c) (a:=a) (w:=(c.length:Int)) hk';have hwl:(bankL s c a c.length k++List.replicate (m-k) (0,0)).length=m:=by simp[jbm];omega
     have hsl:(smps (bankL s c a c.length k++List.replicate (m-k) (0,0))).length=m*2:=by rw[jaV,hwl]
     have hset:=jda (l:=bankL s c a c.length k++List.replicate (m-k) (0,0)) (k:=k) (p:=sumP s c (a+(k:Nat)*(c.length:Nat))) (by rw[hwl];exact hk');rw[bs]at hset;have kS:=kS (a+(k:Nat)*(c.length:Nat)) (by omega);generalize hkc:a+(k:Int)*(c.length:Int)=kc at*;generalize sumP s c kc=q at*;obtain⟨qx,qy⟩:=q;unfold smp at kS;dsimp only at kS hset;refine jcp (r:=R) (by exact ze1 hlp) rs (by rw[hR];rfl) ?_;simp only[congrArg ALoop.nt hR,congrArg ALoop.t hR,congrArg ALoop.params hR,congrArg ALoop.assign hR,congrArg ALoop.body hR];refine zs4 hlp rs gv gs ?_
     refine kaa (kS _ (hsub.put (by omega) _)) (zs5 hlp gs go hset hsl ?_);exact .inl ⟨by omega,by rw[rb],hd,p0,p1,p2,((hsub.put (by omega) _).put (by omega) _).put (by omega) _,by omega,gv⟩
    ·rintro h' ⟨_,hlp,hd,p0,p1,p2,hsub,hsz,gv,gs,go⟩;rw[Nat.sub_self,List.replicate_zero,List.append_nil]at go;exact⟨R,hlp,hsub,hd,hsz,rs,rp,gs,go⟩
   ·rintro h' ⟨R,hlp,hsub,hd,hsz,hst,hpd,gs,go⟩;refine⟨R,hlp,by rw[hst];decide,?_⟩;rw[hpd];show jcD _ _ .normal _;refine zs3 hd gs go ?_;refine⟨_,rfl,((s1.trans hsub).put (by have:=s1.size;omega) _).put (by have:=s1.size;omega) _,kaM (wr:=true) (u:=0) ?_ ⟨(jbm _ _ _ _ _).symm,by omega⟩ (Nat.le_refl _)⟩;exact ze1 go
 ·rw[g1 c,if_pos c,if_neg c];unfold corA;generalize bankErr s d o p a=e at*;refine zs2 @corE.eq_1 c ?_;exact⟨_,rfl,(zh s1),kbw⟩
theorem bst_s(l:List Int)(k:Nat):bstK l (k+1)=if l.getD (bstK l k) 0<l.getD k 0 then k else bstK l k:=rfl
theorem jnx(l:List Int):∀k i,i<k->l.getD i 0<=l.getD (bstK l k) 0
 |0,_,h=>absurd h (Nat.not_lt_zero _)
 | k + 1, i, h => by
  rw[bst_s];rcases Nat.lt_or_ge i k with c|c
  ·have:=jnx l k i c;split<;>omega
  ·obtain rfl:i=k:=by omega
   split<;>omega
theorem jl9(l:List Int):∀k i,i<bstK l k->l.getD i 0<l.getD (bstK l k) 0
 |0,i,h=>absurd h (Nat.not_lt_zero _)
 |k+1,i,h=>by
  rw[bst_s]at h|-;by_cases c:l.getD (bstK l k) 0<l.getD k 0
  ·rw[if_pos c]at h|-;have:=jnx l k i h;omega
  ·rw[if_neg c]at h|-;exact jl9 l k i h
theorem juf{k:Nat}(h0:0<k)(hk:k<=l.length):idxI (fun y=>l.getD (bstK l k) 0==y) l=(bstK l k:Nat):=by
 have hb:bstK l k<l.length:=by rcases jiw l k with q|q<;>omega
 have hf:=jl9 l k;generalize bstK l k=b at*;have q:=jgy (p:=fun y=>l.getD b 0==y) hb (by
  rw[List.any_eq_false];intro x hx;obtain⟨i,hi,rfl⟩:=List.getElem_of_mem hx;rw[List.length_take]at hi;have:=hf i (by omega);rw[List.getElem_take];have e:l.getD i 0=l[i]:=by simp[show i<l.length by omega]
  rw[e]at this;simp only[beq_iff_eq];omega) (by simp)
 unfold idxI;rw[if_pos q.1,q.2]
def jdv(p:PlanP)(s:List (Int×Int))(prn f m b:Int):Int:=if firstE [p.err,codeE p prn,sampE s,placE f m]≠0 then firstE [p.err,codeE p prn,sampE s,placE f m]else if ¬jcJ b then 3 else if s.length<f+m*p.size then 16 else 0
def stpL(p:PlanP)(s:List (Int×Int))(prn f m b:Int):List Int:=jdM (bankL s (sampL p.d prn p.o.toNat) f (sampL p.d prn p.o.toNat).length m.toNat) b b.toNat
def jiK(p:PlanP)(s:List (Int×Int))(prn f m b:Int):AV:=.tuple [.int .i64 (if jdv p s prn f m b=0 then(bstK (stpL p s prn f m b) b.toNat:Nat)else 0),.int .i64 (jdv p s prn f m b)]
theorem AcOk.win0{m:Int}(A:AcOk p s prn)(hf:0<=f/\f<=1048576)(hm:1<=m/\m<=16):winE s p.d p.o prn f m=0:=by
 unfold winE manyE;rw[A.bank (by omega),if_neg (by decide),if_neg (by omega)]
theorem AcOk.stp0{m w:Int}(A:AcOk p s prn)(hm:1<=m/\m<=16)(hb:jcJ b):je6 (bankL s (sampL p.d prn p.o.toNat) f w m.toNat) b=0:=by
 have e:smE (bankL s (sampL p.d prn p.o.toNat) f w m.toNat) 16=0:=by
  unfold smE;rw[if_neg (by rw[jbm];omega),if_pos];intro x hx;unfold bankL at hx;obtain⟨j,_,rfl⟩:=List.mem_map.1 hx;exact jhs (A.win _) (by decide)
 unfold je6;rw[e,if_neg (by decide),if_pos hb]
theorem js0(hC:Has C TA)(hl:RI h v l)(h0:0<l.length):ACalls C 407 [v] h (fun r h'=>r=.int .i64 (l.getD (bstK l l.length) 0)/\h'=h):=by
 have hlt:=hl.lt;have l0:=hl.load h0;have ix:=hl.idx (kk:=.i64) (k:=0) ⟨by omega,by omega⟩;have b1:bstK l 1=0:=by rw[bst_s];split<;>rfl
 have bs:=bst_s l;have bl:=jiw l;generalize bstK l=BK at*;refine zf 407 B407 hC ?_;simp only[B407,zB];refine zs3 @hl.len ix l0 ?_;refine jae (fun j t h'=>h'=h/\t 0=v/\∃k:Nat,t 3=.int .i64 (l.getD (BK k) 0)/\t 4=.int .i64 (k:Nat)/\1<=k/\k<=l.length/\j=l.length-k) (j0:=l.length-1)
  ⟨rfl,rfl,1,by rw[b1];rfl,rfl,by omega,by omega,rfl⟩ ?_
 rintro j t h' ⟨rfl,e0,k,e3,e4,hk1,hk,hj⟩;refine zs3 e0 e4 @hl.len ?_;refine kaf (fun c=>?_) (fun c=>?_)
 ·have hk':k<l.length:=by omega
  have ld:=hl.load hk';have bsk:=bs k;refine zs5 e0 e3 e4 @hl.idx ld ?_;refine⟨_,⟨k+1,?_,by simp,by omega,by omega,rfl⟩,by omega⟩;rw[bsk];split<;>omega
 ·obtain rfl:k=l.length:=by omega
  exact ze1 e3
theorem jpz(hC:Has C TA){v vp:AV}{p:PlanP}{s:List (Int×Int)}{prn f pw m b:Int}{h:Heap}(hs:SI h v s)(R:RI h vp p.prns)(p64:p.ok64)(hf:In64 f)(hm:In64 m)(hb:In64 b):
  ACalls C 401 [v,plA p vp,hitA prn f pw m,.int .i64 b] h (fun r h'=>r=jiK p s prn f m b/\HSub h h'):=by
 have v1:=R.one;have kp:=fun H (q:HSub h H)=>jbH hC (h:=H) (p:=p) ⟨vp,rfl,R.mono q⟩ p64;have kc:=fun H (q:HSub h H)=>jdm hC (h:=H) (p:=p) (prn:=prn) (R.mono q);have ks:=fun H (q:HSub h H)=>jbM hC (h:=H) (hs.mono q);have kl:=fun H=>jbX hC (h:=H) (f:=f) (m:=m);have k1:=fun H i u (g:H.get i=some (.cells (ints [p.err,codeE p prn,sampE s,placE f m]) true u))=>jck hC (h:=H) (l:=[p.err,codeE p prn,sampE s,placE f m]) (v:=.slice i 0 4 (.known 4)) (kah g ⟨rfl,by simp⟩ (by simp)) (by simp);have kb:=fun H i u (g:H.get i=some (.cells (ints [1,2,4,8,16,32,64]) true u))=>jbD hC (h:=H) (x:=b) (l:=[1,2,4,8,16,32,64]) (v:=.slice i 0 7 (.known 7)) (kah g ⟨rfl,by simp⟩ (by simp))
 have eb:([1,2,4,8,16,32,64].any fun y=>b==y)=decide (jcJ b):=by
  rw[Bool.eq_iff_iff,decide_eq_true_eq];simp[jcJ]
 rw[eb]at kb;clear eb;unfold jiK;by_cases c:firstE [p.err,codeE p prn,sampE s,placE f m]=0
 ·rw[c]at k1;have z:=jcu c;have ao:=jiB (f:=f) (m:=m) p64 (z _ (by simp)) (z (codeE p prn) (by simp)) (z (sampE s) (by simp)) (z (placE f m) (by simp));obtain⟨A,hf',hm'⟩:=ao;have sz:=jal A.ok.nums;have hl2:=A.len;have sl:=hs.len;have kP:=fun H=>jcA hC (p:=p) (vp:=vp) (h:=H) v1 A.ok.nums;have kW:=fun H (q:HSub h H)=>jl8 hC (h:=H) (a:=f) (many:=m) (hs.mono q) A.p64.1 A.p64.2.1 (A.p64.2.2.2.2.2.2.2 _ A.hin) hf hm;rw[A.win0 hf' hm',if_pos rfl]at kW;have e0:jdv p s prn f m b=if ¬jcJ b then 3 else if s.length<f+m*p.size then 16 else 0:=by unfold jdv;rw[c,if_neg (by decide)]
  have m0:0<=m*p.size:=Int.mul_nonneg (by omega) (by omega);have m1:m*p.size<=16*8184:=Int.mul_le_mul hm'.2 sz.2.1 (by omega) (by omega);by_cases cb:jcJ b
  ·have kS:=fun w H (S:SI H w (bankL s (sampL p.d prn p.o.toNat) f (sampL p.d prn p.o.toNat).length m.toNat))=>jpy hC (h:=H) S hb;rw[A.stp0 hm' cb,if_pos rfl]at kS;have b0:0<b:=by unfold jcJ at cb;omega
   have ll:(stpL p s prn f m b).length=b.toNat:=jch _ _ _;have es:jdM (bankL s (sampL p.d prn p.o.toNat) f (sampL p.d prn p.o.toNat).length m.toNat) b b.toNat=stpL p s prn f m b:=rfl;rw[es]at kS;have bi:=juf (l:=stpL p s prn f m b) (k:=b.toNat) (by omega) (by omega);generalize stpL p s prn f m b=L at*;generalize bankL s (sampL p.d prn p.o.toNat) f (sampL p.d prn p.o.toNat).length m.toNat=BL at*;have kM:=fun w H (S:RI H w L)=>js0 hC (h:=H) S (by omega);rw[ll]at kM;have kI:=fun w H (S:RI H w L)=>jju hC (h:=H) (x:=L.getD (bstK L b.toNat) 0) S;rw[bi]at kI
   rw[decide_eq_true cb]at kb;rw[if_neg (by simpa using cb)]at e0;generalize hms:m*p.size=ms at*;generalize L.getD (bstK L b.toNat) 0=M at*;generalize bstK L b.toNat=BB at*;unfold plA hitA at*;by_cases cs:(s.length:Int)<f+ms
   ·rw[if_pos cs]at e0;rw[e0,if_neg (by decide)];refine zf 401 B401 hC ?_;simp only[B401,zB];refine zs ?_;refine kaa (kp _ zr) (zs ?_);refine kaa (kc _ zr) (zs ?_);refine kaa (ks _ zr) (zs ?_);refine kaa (kl _) (zs1 @Heap.wf ?_);refine kaa (k1 _ _ 0 (by refine zs ?_;rfl)) ?_;refine zs ?_;refine kaa (kb _ _ 0 (by refine zs ?_;rfl)) ?_;refine zs1 sl ?_;refine kaa (kP _) (zs3 @hms sl cs ?_);exact zr
   ·rw[if_neg cs]at e0;rw[e0,if_pos rfl];refine zf 401 B401 hC ?_;simp only[B401,zB];refine zs ?_;refine kaa (kp _ zr) (zs ?_);refine kaa (kc _ zr) (zs ?_);refine kaa (ks _ zr) (zs ?_);refine kaa (kl _) (zs1 @Heap.wf ?_);refine kaa (k1 _ _ 0 (by refine zs ?_;rfl)) ?_;refine zs ?_;refine kaa (kb _ _ 0 (by refine zs ?_;rfl)) ?_;refine zs1 sl ?_;refine kaa (kP _) (zs3 @hms sl cs ?_);refine kad (kW _ zr) ?_;rintro r h1 ⟨w1,rfl,s1,Q1⟩;have t1:=HSub.trans (show HSub h _ from zr) s1;refine zs1 @jai.eq_1 ?_;refine kad (kS _ _ Q1) ?_;rintro r h2 ⟨w2,rfl,s2,Q2⟩
    have t2:=t1.trans s2;refine zs1 @jai.eq_1 ?_;refine kaa (kM _ _ Q2) (zs ?_);refine kaa (kI _ _ Q2) (zs ?_);exact t2
  ·rw[decide_eq_false cb]at kb;rw[if_pos cb]at e0;rw[e0,if_neg (by decide)];unfold plA hitA at*;refine zf 401 B401 hC ?_;simp only[B401,zB];refine zs ?_;refine kaa (kp _ zr) (zs ?_);refine kaa (kc _ zr) (zs ?_);refine kaa (ks _ zr) (zs ?_);refine kaa (kl _) (zs1 @Heap.wf ?_);refine kaa (k1 _ _ 0 (by refine zs ?_;rfl)) ?_;refine zs ?_;refine kaa (kb _ _ 0 (by refine zs ?_;rfl)) ?_;refine zs ?_;exact zr
 ·have ee:jdv p s prn f m b=firstE [p.err,codeE p prn,sampE s,placE f m]:=by unfold jdv;rw[if_pos c]
  rw[ee,if_neg c];clear ee;generalize firstE [p.err,codeE p prn,sampE s,placE f m]=E at*;unfold plA hitA at*;refine zf 401 B401 hC ?_;simp only[B401,zB];refine zs ?_;refine kaa (kp _ zr) (zs ?_);refine kaa (kc _ zr) (zs ?_);refine kaa (ks _ zr) (zs ?_);refine kaa (kl _) (zs1 @Heap.wf ?_);refine kaa (k1 _ _ 0 (by refine zs ?_;rfl)) ?_;refine zs1 c ?_;exact zr
def Z0:List (Int×Int):=List.replicate 248 (0,0)
theorem jjI:Z0.length=248:=List.length_replicate
theorem Z0_at(i:Int):atP Z0 i=(0,0):=by
 unfold atP;split
 ·rfl
 ·rw[List.getD_eq_getElem?_getD];unfold Z0;rw[List.getElem?_replicate];split<;>rfl
theorem jtq(c:List Int)(a:Int):sumP Z0 c a=(0,0):=by
 unfold sumP;have key:∀k,sumK Z0 c a k=(0,0):=by
  intro k
  induction k with
  |zero=>rfl
  |succ k ih=>
   unfold sumK;rw[ih,Z0_at];simp[mulP,addP]
 exact key _
theorem Z0_wp(c:List Int)(a:Int):wpI Z0 c a=0:=by unfold wpI;rw[jtq];rfl
theorem Z0_pw(c:List Int)(a w:Int):∀k,pwK Z0 c a w k=0
 |0=>rfl
 |k+1=>by unfold pwK;rw[Z0_pw c a w k,Z0_wp];rfl
theorem jrn(f m:Int):scnI P15 Z0 1 f m=List.replicate 62 0:=by
 unfold scnI scanL;rw[show P15.size.toNat=62 by rw[jfz];rfl];refine List.ext_getElem (by simp) fun i a b=>?_;rw[List.getElem_map,Z0_pw,List.getElem_replicate]
theorem jkM(n i:Nat):(List.replicate n (0:Int)).getD i 0=0:=by
 rw[List.getD_eq_getElem?_getD,List.getElem?_replicate];split<;>rfl
theorem jkN(n:Nat):∀k,bstK (List.replicate n 0) k=0
 |0=>rfl
 |k+1=>by rw[bst_s,jkM,jkM,if_neg (by decide),jkN n k]
theorem jro{t m:Int}(hm:0<=m):claimB t 0 m=false:=by
 unfold claimB;rw[decide_eq_false_iff_not];have h:0<=t*t:=by
  rcases Int.lt_or_le t 0 with q|q
  ·have:=Int.mul_nonneg (show 0<= -t by omega) (show 0<= -t by omega)
   rwa [Int.neg_mul_neg]at this
  ·exact Int.mul_nonneg q q
 have:=Int.mul_nonneg h hm;omega
theorem jtr(f m:Int):hitQ P15 Z0 f m 1=(1,f,0,m):=by
 unfold hitQ;rw[jrn,jkN,jkM];simp
theorem jug:sampE Z0=0:=by
 unfold sampE;rw[jjI,if_neg (by decide),if_pos];intro x hx;rw[List.eq_of_mem_replicate hx];decide
theorem jge(b sh prn f m:Int)(h0:gErr b sh=0)(h1:codeE P15 prn=0):firstE [P15.err,gErr b sh,codeE P15 prn,sampE Z0,placE f m]=placE f m/\firstE [P15.err,gErr b sh,sampE Z0,placE f m]=placE f m/\firstE [P15.err,codeE P15 prn,sampE Z0,placE f m]=placE f m:=by
 rw[jtm,jug,h0,h1];unfold placE;split<;>exact⟨rfl,rfl,rfl⟩
theorem jok:jdp P15 8 5 Z0 1 0 3=.tuple [hitA 1 0 0 3,.bool false,.int .i64 0]/\jdp P15 8 5 Z0 1 2 3=.tuple [hitA 0 0 0 0,.bool false,.int .i64 16]/\jdp P15 8 5 Z0 1 0 17=.tuple [hitA 0 0 0 0,.bool false,.int .i64 2]/\jdp P15 8 5 Z0 1 (-1) 1=.tuple [hitA 0 0 0 0,.bool false,.int .i64 2]:=by
 have f:=fun f m=>(jge 8 5 1 f m rfl rfl).1;have e:∀g m:Int,jdo P15 8 5 Z0 1 g m=if placE g m≠0 then placE g m else if fitB Z0 P15 g m=true then 0 else 16:=fun g m=>by unfold jdo;rw[f]
 have fb:∀g m:Int,fitB Z0 P15 g m=decide (g+62-1+m*62<=248):=fun g m=>by unfold fitB;rw[jfz,jjI];rfl
 have i3:=jtr 0 3;refine⟨?_,?_,?_,?_⟩
 ·have e0:jdo P15 8 5 Z0 1 0 3=0:=by rw[e,fb];decide
  have hi:hitI P15 Z0 1 0 3=hitA 1 0 0 3:=by rw[jt8,i3];rfl
  have pw:(scnI P15 Z0 1 0 3).getD (bstK (scnI P15 Z0 1 0 3) P15.size.toNat) 0=0:=by rw[jrn,jkN,jkM]
  unfold jdp;rw[if_pos e0,hi,pw,jro (by decide)]
 ·have e0:jdo P15 8 5 Z0 1 2 3=16:=by rw[e,fb];decide
  unfold jdp;rw[e0];rfl
 ·have e0:jdo P15 8 5 Z0 1 0 17=2:=by rw[e];decide
  unfold jdp;rw[e0];rfl
 ·have e0:jdo P15 8 5 Z0 1 (-1) 1=2:=by rw[e];decide
  unfold jdp;rw[e0];rfl
theorem jts:jfg P15 8 5 Z0 0 2=0/\hitsL P15 5 Z0 0 2 P15.prns=[]:=by
 constructor
 ·unfold jfg;rw[(jge 8 5 1 0 2 rfl rfl).2.1];have fb:fitB Z0 P15 0 2=true:=by unfold fitB;rw[jfz,jjI];decide
  rw[fb];rfl
 ·have c:clmQ P15 5 Z0 0 2 1=false:=by
   unfold clmQ;rw[jtr];exact jro (by decide)
  show hitsL P15 5 Z0 0 2 [1]=[];unfold hitsL;simp[c]
theorem juh:jfA P15 8 5 Z0 1 0 3 2=.tuple [.int .i64 0,.int .i64 0]:=by
 have e0:jcN P15 8 5 Z0 1 0 3 2=0:=by
  unfold jcN;rw[(jge 8 5 1 0 3 rfl rfl).1];decide
 have cw:∀a,clmW P15 5 1 Z0 a=false:=fun a=>by unfold clmW;rw[Z0_wp];exact jro (by decide)
 have cf:∀x j,cfmK P15 5 1 Z0 x j=false:=by
  intro x j
  induction j with
  |zero=>rfl
  |succ j ih=>rw[cfm_s,ih,cw,Bool.and_false];rfl
 have cn:∀k,cntK P15 5 1 Z0 0 3 k=0:=by
  intro k
  induction k with
  |zero=>rfl
  |succ k ih=>unfold cntK;rw[ih,cf];rfl
 unfold jfA;rw[e0,if_pos rfl,cn];rfl
theorem jrp:jiK P15 Z0 1 0 3 8=.tuple [.int .i64 0,.int .i64 0]/\jdv P15 Z0 1 0 3 3=3:=by
 have e:∀b,jdv P15 Z0 1 0 3 b=if ¬jcJ b then 3 else 0:=fun b=>by
  unfold jdv;rw[(jge 8 5 1 0 3 rfl rfl).2.2,jfz];rw[if_neg (by decide)];split
  ·rfl
  ·rw[jjI,if_neg (by decide)]
 refine⟨?_,by rw[e];decide⟩;have sp:∀(l:List (Int×Int)),(∀i,l.getD i (0,0)=(0,0))->∀st k,spinK l st k=(0,0):=by
  intro l hl st k
  induction k with
  |zero=>rfl
  |succ k ih=>
   unfold spinK;rw[ih,hl];simp[mixP,addP]
 have bl:∀i,(bankL Z0 (sampL P15.d 1 P15.o.toNat) 0 (sampL P15.d 1 P15.o.toNat).length (3:Int).toNat).getD i (0,0)=(0,0):=fun i=>by
  unfold bankL;rw[List.getD_eq_getElem?_getD,List.getElem?_map];cases (List.range (3:Int).toNat)[i]? with
  |none=>rfl
  |some j=>simp[jtq]
 have st:stpL P15 Z0 1 0 3 8=List.replicate 8 0:=by
  unfold stpL jdM;refine List.ext_getElem (by simp) fun i a b=>?_;rw[List.getElem_map,List.getElem_replicate];unfold stepP;rw[sp _ bl];rfl
 have e8:jdv P15 Z0 1 0 3 8=0:=by rw[e];decide
 unfold jiK;rw[e8,if_pos rfl,st,jkN];rfl
theorem jui:jiA P15 Z0 1 0 2=0:=by
 unfold jiA;rw[(jge 8 5 1 0 2 rfl rfl).2.2];have fb:fitB Z0 P15 0 2=true:=by unfold fitB;rw[jfz,jjI];decide
 rw[fb];rfl
theorem js1(hC:Has C TA):ACalls C 373 [] h (fun r h'=>HSub h h'/\∃vp,r=plA P15 vp/\RI h' vp P15.prns/\KnownCap vp):=by
 refine zf 373 B373 hC ?_;simp only[B373,zB];refine zs ?_;refine⟨zr,_,rfl,kah (wr:=true) (u:=0) (l:=[1]) (by refine zs ?_;rfl) ⟨rfl,by decide⟩ (by decide),.inr ⟨_,_,_,_,rfl⟩⟩
theorem jgR(hC:Has C TA):ACalls C.main0 393 [] h (fun r h'=>r=.bool true/\HSub h h'):=by
 have hM:Has C.main0 TA:=hC.main0;have kp:=fun H=>js1 hM (h:=H);have kg:=fun H=>jhe hM (h:=H);have kw:=fun H=>jkL hM (h:=H);have ks:=fun v vp H (S:SI H v Z0) (R:RI H vp P15.prns)=>jqZ hM (prn:=1) (f:=0) (m:=2) S R jhc (by unfold In64;omega) (by unfold In64;omega);have ka:=fun f m v vp H (S:SI H v Z0) (R:RI H vp P15.prns) (hf:In64 f) (hm:In64 m)=>jhb hM (b:=8) (sh:=5) (prn:=1) (f:=f) (m:=m) S R jhc hf hm;have k1:=fun v vp H S R=>ka 0 3 v vp H S R (by unfold In64;omega) (by unfold In64;omega);have k2:=fun v vp H S R=>ka 2 3 v vp H S R (by unfold In64;omega) (by unfold In64;omega)
 have k3:=fun v vp H S R=>ka 0 17 v vp H S R (by unfold In64;omega) (by unfold In64;omega);have k4:=fun v vp H S R=>ka (-1) 1 v vp H S R (by unfold In64;omega) (by unfold In64;omega);rw[jok.1]at k1;rw[jok.2.1]at k2;rw[jok.2.2.1]at k3;rw[jok.2.2.2]at k4;have kl:=fun v vp H (S:SI H v Z0) (Ks:KnownCap v) (R:RI H vp P15.prns) (Kp:KnownCap vp)=>jhz hC (b:=8) (sh:=5) (f:=0) (m:=2) S Ks R Kp jhc (by unfold In64;omega) (by unfold In64;omega);have kc:=fun v vp H (S:SI H v Z0) (R:RI H vp P15.prns)=>jhf hM (b:=8) (sh:=5) (prn:=1) (f:=0) (pw:=0) (m:=3) (n:=2) S R jhc (by unfold In64;omega) (by unfold In64;omega) (by unfold In64;omega)
 have kt:=fun b v vp H (S:SI H v Z0) (R:RI H vp P15.prns) (hb:In64 b)=>jpz hM (prn:=1) (f:=0) (pw:=0) (m:=3) (b:=b) S R jhc (by unfold In64;omega) (by unfold In64;omega) hb;have t1:=fun v vp H S R=>kt 8 v vp H S R (by unfold In64;omega);have t2:=fun v vp H S R=>kt 3 v vp H S R (by unfold In64;omega);rw[jrp.1]at t1;unfold jiK at t2;rw[jrp.2,if_neg (by decide)]at t2;rw[juh]at kc;rw[jui,if_pos rfl,jrn]at ks;unfold jl4 at kl;rw[jts.1,if_pos rfl,jts.2]at kl;have kq:=fun va vb H (A:RI H va (List.replicate 62 0)) (B:RI H vb (List.replicate 62 0))=>joK hM A B
 rw[decide_eq_true rfl]at kq;have hz:=jbv (p:=(0,0)) (n:=248);simp only at hz;have hz2:jbo 62 [.int .i64 0]=ints (List.replicate 62 0):=rfl;have ez:List.replicate 248 ((0:Int),(0:Int))=Z0:=rfl;rw[ez]at hz;have zl:=jjI;have zlt:(248:Nat)=Z0.length/\248<9223372036854775808:=⟨zl.symm,by decide⟩;generalize Z0=Z at*;clear ka kt ez zl;unfold hitA gA at*;refine jd7 (hM.body (by decide) (by rfl:tab 393=some B393)) (Nat.le_of_ble_eq_true rfl) ?_;show wp C.main0 _ none B393.code _ _;simp only[B393,zB];have lenZ:=zlt.1;refine zs1 hz ?_;have S0:SI (h.push (.cells (smps Z) true 0)) (.slice h.size 0 248 (.known 248)) Z:=kaM (get_push_eq rfl) zlt (Nat.le_refl _)
 have sB:=kac h (.cells (smps Z) true 0);generalize h.push (.cells (smps Z) true 0)=B at*;have Ks:KnownCap (.slice h.size 0 248 (.known 248)):=.inr ⟨_,_,_,_,rfl⟩;generalize AV.slice h.size 0 248 (.known 248)=v at*;have v1:=S0.one;refine kad (kp _) ?_;rintro r h1 ⟨s1,p1,rfl,R1,K1⟩;have u1:=s1;refine zs1 @plA.eq_1 ?_;refine kad (ks _ _ _ (S0.mono u1) R1) ?_;rintro r h2 ⟨w2,rfl,s2,Q2⟩;have u2:=u1.trans s2;refine zs1 @jai.eq_1 ?_;refine kad (kp _) ?_;rintro r h3 ⟨s3,p3,rfl,R3,K3⟩;have u3:=u2.trans s3;refine zs ?_;refine kaa (kg _) (zs1 @plA.eq_1 ?_);refine kad (k1 _ _ _ (S0.mono u3) R3) ?_
 rintro r h4 ⟨rfl,s4⟩;have u4:=(u3.trans s4).push (.cells [.int .i64 1,.int .i64 0,.int .i64 0,.int .i64 3] true 0);have g4:=get_push_eq (h:=h4) (b:=.cells [.int .i64 1,.int .i64 0,.int .i64 0,.int .i64 3] true 0) (i:=h4.size) rfl;have q2:=(Q2.mono s3).mono s4|>.mono (kac h4 (.cells [.int .i64 1,.int .i64 0,.int .i64 0,.int .i64 3] true 0));refine zs ?_;refine kal (fun H4 hH4=>?_);rw[<-hH4]at u4 g4 q2;have l4:=kab g4;refine kad (kp _) ?_;rintro r h5 ⟨s5,p5,rfl,R5,K5⟩;refine zs ?_;refine kaa (kg _) (zs1 @plA.eq_1 ?_);refine kad (k2 _ _ _ (S0.mono (u4.trans s5)) R5) ?_
 rintro r h6 ⟨rfl,s6⟩;have w6:=(s5.trans s6).push (.cells [.int .i64 0,.int .i64 0,.int .i64 0,.int .i64 0] true 0);refine zs ?_;refine kad (kp _) ?_;rintro r h7 ⟨s7,p7,rfl,R7,K7⟩;refine zs ?_;refine kaa (kg _) (zs1 @plA.eq_1 ?_);refine kad (k3 _ _ _ (S0.mono (u4.trans (w6.trans s7))) R7) ?_;rintro r h8 ⟨rfl,s8⟩;have w8:=((w6.trans s7).trans s8).push (.cells [.int .i64 0,.int .i64 0,.int .i64 0,.int .i64 0] true 0);refine zs ?_;refine kad (kp _) ?_;rintro r h9 ⟨s9,p9,rfl,R9,K9⟩;refine zs ?_;refine kaa (kg _) (zs1 @plA.eq_1 ?_);refine kad (k4 _ _ _ (S0.mono (u4.trans (w8.trans s9))) R9) ?_
 rintro r ha ⟨rfl,sa⟩;have wa:=(((w8.trans s9).trans sa).push (.cells [.int .i64 0,.int .i64 0,.int .i64 0,.int .i64 0] true 0)).push (.cells (ints (List.replicate 62 0)) true 0);have ga:=(wa.get _ l4).trans g4;have Rq:RI (((ha.push (.cells [.int .i64 0,.int .i64 0,.int .i64 0,.int .i64 0] true 0))).push (.cells (ints (List.replicate 62 0)) true 0)) (.slice (ha.size+1) 0 62 (.known 62)) (List.replicate 62 0):=kah (get_push_eq (by simp)) ⟨by simp,by decide⟩ (Nat.le_refl _);have eq1:eqsA false [(0,false),(1,false),(2,false),(3,false)] (.agg [.int .i64 1,.int .i64 0,.int .i64 0,.int .i64 3]) (.agg [.int .i64 1,.int .i64 0,.int .i64 0,.int .i64 3])=some (.bool true):=eqs4
 refine zs1 hz2 ?_;refine kaa (kq _ _ _ (q2.mono wa) Rq) ?_;have lx:=kab ga;refine zs2 ga eq1 ?_;refine kad (kp _) ?_;rintro r hb ⟨sb,pb,rfl,Rb,Kb⟩;refine zs ?_;refine kaa (kg _) (zs1 @plA.eq_1 ?_);refine kad (kl _ _ _ (S0.mono (u4.trans (wa.trans sb))) Ks Rb Kb) ?_;rintro r hc ⟨wl,rfl,sc,Ql⟩;have wc:=(wa.trans sb).trans sc;have gc:=(wc.get _ l4).trans g4;have Qn:=SL.len Ql;refine zs2 @jai.eq_1 gc ?_;refine kad (kp _) ?_;rintro r hd ⟨sd,pd,rfl,Rd,Kd⟩;have yc:=kab gc;have gd:hd.get h4.size=hc.get h4.size:=sd.get h4.size yc;refine zs2 gd gc ?_;refine kaa (kg _) ?_
 refine zs1 @plA.eq_1 ?_;refine kad (kc _ _ _ (S0.mono (u4.trans (wc.trans sd))) Rd) ?_;rintro r he ⟨rfl,se⟩;have we:=(wc.trans sd).trans se;have ge:=(we.get _ l4).trans g4;have ye:=kab ge;refine zs1 ge ?_;refine kad (kp _) ?_;rintro r hf ⟨sf,pf,rfl,Rf,Kf⟩;have gf:hf.get h4.size=he.get h4.size:=sf.get h4.size ye;refine zs3 gf ge @plA.eq_1 ?_;refine kad (t1 _ _ _ (S0.mono (u4.trans (we.trans sf))) Rf) ?_;rintro r hg ⟨rfl,sg⟩;have wg:=(we.trans sf).trans sg;have gg:=(wg.get _ l4).trans g4;have yg:=kab gg;refine zs1 gg ?_;refine kad (kp _) ?_;rintro r hi ⟨si,pi,rfl,Ri,Ki⟩
 have gi:hi.get h4.size=hg.get h4.size:=si.get h4.size yg;refine zs3 gi gg @plA.eq_1 ?_;refine kad (t2 _ _ _ (S0.mono (u4.trans (wg.trans si))) Ri) ?_;rintro r hj ⟨rfl,sj⟩;have wj:=(wg.trans si).trans sj;refine zs ?_;refine kaa (kw _) (zs1 Qn ?_);exact sB.trans (u4.trans wj)
def someOf(l:List Int)(i:Nat)(n:Int):Int:=if i<l.length then l.getD i 0% n else 0
theorem jeM(hC:Has C TA){v:AV}{l:List Int}{i:Nat}{n:Int}{h:Heap}(hl:RI h v l)(hx:∀x∈l,In64 x)(hn:1<=n/\n<=9223372036854775807):
  ACalls C 45 [v,.int .i64 (i:Nat),.int .i64 n] h (fun r h'=>r=.int .i64 (someOf l i n)/\h'=h):=by
 have hlt:=hl.lt;refine zf 45 B45 hC ?_;simp only[B45,zB];refine zs1 @hl.len ?_;refine kaf (fun c=>?_) (fun c=>?_)
 ·simp-implicitDefEqProofs (disch:=first|exact zd|fail) only[↓wpPre,jbx,jby,Int.reduceToNat,Int.reducePow,Int.reduceMul,Int.reduceAdd,Int.reduceSub,Int.reduceNeg,Nat.reduceAdd,Nat.reduceMul,Nat.reducePow,Int.reduceLT,Int.reduceLE,Int.reduceEq,Nat.reduceEqDiff,someOf,if_neg (show ¬i<l.length by omega)]
 ·have hi:i<l.length:=by omega
  refine zs2 @hl.idx @hl.load ?_;refine kaa (jc7 hC (hx _ (jam hi)) hn) ?_;simp-implicitDefEqProofs (disch:=first|exact zd|fail) only[↓wpPre,jbx,jby,Int.reduceToNat,Int.reducePow,Int.reduceMul,Int.reduceAdd,Int.reduceSub,Int.reduceNeg,Nat.reduceAdd,Nat.reduceMul,Nat.reducePow,Int.reduceLT,Int.reduceLE,Int.reduceEq,Nat.reduceEqDiff,someOf,if_pos hi]
theorem jah{n:Int}(hn:1<=n):0<=someOf l i n/\someOf l i n<n:=by
 unfold someOf;split
 ·exact⟨Int.emod_nonneg _ (by omega),Int.emod_lt_of_pos _ (by omega)⟩
 ·omega
def bitK(l:List Int)(k:Nat):List Int:=(List.range k).map fun i=>l.getD (7+i) 0% 2
theorem jiL(l:List Int)(k:Nat):(bitK l k).length=k:=by simp[bitK]
theorem jrq(l:List Int)(k:Nat):bitK l (k+1)=bitK l k++[l.getD (7+k) 0% 2]:=by simp[bitK,List.range_succ]
def jeN(p:PlanP)(l:List Int):EmitP:=⟨p.prns.getD 0 0,someOf l 0 p.size,someOf l 1 129-64,someOf l 2 64*67108864+someOf l 3 67108864,someOf l 4 64*67108864,p.mn+someOf l 5 (p.mx-p.mn+1),someOf l 6 p.pb,bitK l (min l.length 20-7)⟩
theorem jrr(hp:p.numsOk)(h64:p.ok64)(hl:0<p.prns.length):(jeN p l).ok64:=by
 have sz:=jal hp;have h0:=jah (l:=l) (i:=0) (n:=p.size) (by omega);have h1:=jah (l:=l) (i:=1) (n:=129) (by omega);have h2:=jah (l:=l) (i:=2) (n:=64) (by omega);have h3:=jah (l:=l) (i:=3) (n:=67108864) (by omega);have h4:=jah (l:=l) (i:=4) (n:=64) (by omega);have pm:=hp.2.2.2.2;have h5:=jah (l:=l) (i:=5) (n:=p.mx-p.mn+1) (by omega);have pb:=hp.2.2.1;have h6:=jah (l:=l) (i:=6) (n:=p.pb) (by omega);have hx:=h64.2.2.2.2.2.2.2 _ (jam (l:=p.prns) (i:=0) hl);unfold EmitP.ok64 jeN;dsimp only;refine⟨hx,by unfold In64;omega,by unfold In64;omega,by unfold U32;omega,by unfold U32;omega,by unfold In64;omega,by unfold In64;omega,fun x hx=>?_⟩
 obtain⟨i,_,rfl⟩:=List.mem_map.1 hx;unfold In64;omega
theorem jpA(hp:p.err=0):emitErr p (jeN p l)=0:=by
 have pn:=jnd hp;have sz:=jal pn;have h0:=jah (l:=l) (i:=0) (n:=p.size) (by omega);have h1:=jah (l:=l) (i:=1) (n:=129) (by omega);have pm:=pn.2.2.2.2;have h5:=jah (l:=l) (i:=5) (n:=p.mx-p.mn+1) (by omega);have pb:=pn.2.2.1;have h6:=jah (l:=l) (i:=6) (n:=p.pb) (by omega);have hl:0<p.prns.length:=by
  unfold PlanP.err at hp;rw[if_pos pn]at hp;by_cases c:p.prns.length=0
  ·rw[if_pos c]at hp;omega
  ·omega
 have ha:(p.prns.any fun y=>(jeN p l).prn==y)=true:=by
  rw[List.any_eq_true];exact⟨_,jam hl,by simp[jeN]⟩
 have hn:(jeN p l).numsOk p:=by
  unfold EmitP.numsOk jeN;dsimp only;omega
 have hb:(jeN p l).bits.any (fun b=>b !=0&&b !=1)=false:=by
  rw[List.any_eq_false];intro x hx;obtain⟨i,_,rfl⟩:=List.mem_map.1 hx;have:=Int.emod_two_eq (l.getD (7+i) 0);rcases this with e|e<;>rw[e]<;>decide
 have hlen:(jeN p l).bits.length<=20:=by
  show(bitK _ _).length<=20;rw[jiL];omega
 unfold emitErr;rw[if_pos hp,if_pos ha,if_pos hn,if_neg (by omega),if_neg (by rw[hb];decide)]
theorem GrwI.putNe{b:ABlk}(A:GrwI h0 H v l)(hi:h0.size<=i)(hn:∀j∈v.ids,j≠i):GrwI h0 (H.put i b) v l:=by
 obtain⟨hs,hl,hn',⟨rfl,e⟩|⟨j,ex,hj,rfl,hg⟩⟩:=A
 ·exact⟨hs.put hi b,hl,hn',.inl ⟨rfl,e⟩⟩
 ·exact⟨hs.put hi b,hl,hn',.inr ⟨j,ex,hj,rfl,(get_put_ne (hn j (by simp[AV.ids]))).trans hg⟩⟩
theorem jol(hj:j<H.size)(hv:j∉v.ids):(snocH H none v sz cs).get j=H.get j:=by
 unfold snocH;cases v
 case slice i o n c=>exact(get_push_lt (by simpa using hj)).trans (get_put_ne (fun e=>hv (by simp[AV.ids,e])))
 all_goals exact get_push_lt hj
def emitAt(p:PlanP)(k:Nat)(l:List Int):EmitP:={jeN p l with prn:=p.prns.getD k 0}
theorem jma(hC:Has C TA){v w:AV}{p:PlanP}{l:List Int}{u0:Nat}{h:Heap}(hp:PlI h w p)(pn:p.numsOk)(hp0:u0<p.prns.length)(h64:p.ok64)(hl:RI h v l)(hx:∀x∈l,In64 x):
  ACalls C 236 [w,.int .i64 (u0:Nat),v] h (fun r h'=>HSub h h'/\∃vb,r=.agg [.int .i64 (emitAt p u0 l).prn,.int .i64 (emitAt p u0 l).dl,.int .i64 (emitAt p u0 l).rt,.int .u32 (emitAt p u0 l).st,.int .u32 (emitAt p u0 l).ph,.int .i64 (emitAt p u0 l).amp,.int .i64 (emitAt p u0 l).ba,vb]/\RI h' vb (emitAt p u0 l).bits/\∀i∈vb.ids,h.size<=i):=by
 have hlt:=hl.lt;obtain⟨vp,rfl,R⟩:=hp;have v1:=R.one;have plt:=R.lt;have sz:=jal pn;have hN:=jbk pn.1;have hlc:=jbw pn.1;have pm:=pn.2.2.2.2;have pbb:=pn.2.2.1;have po:=pn.2.1;have eN1:((lenN p.d+1:Nat):Int)-1=lenN p.d:=by omega
 have es:(lenN p.d:Int)*p.o=p.size:=rfl;have S:=fun(i:Nat) (n:Int) (hn:1<=n/\n<=9223372036854775807) h1 (q:HSub h h1)=>jeM hC (i:=i) (hl.mono q) hx hn;have T0:=fun h1=>jc7 (h:=h1) (x:=(u0:Nat)) (n:=(p.prns.length:Int)) hC (by unfold In64;omega) (by omega);rw[Int.emod_eq_of_lt (by omega) (by omega)]at T0;have h0:=jah (l:=l) (i:=0) (n:=p.size) (by omega);have h1:=jah (l:=l) (i:=1) (n:=129) (by omega);have h2:=jah (l:=l) (i:=2) (n:=64) (by omega);have h3:=jah (l:=l) (i:=3) (n:=67108864) (by omega);have h4:=jah (l:=l) (i:=4) (n:=64) (by omega)
 have h5:=jah (l:=l) (i:=5) (n:=p.mx-p.mn+1) (by omega);have h6:=jah (l:=l) (i:=6) (n:=p.pb) (by omega);have S0:=S 0 p.size (by omega);have S1:=S 1 129 (by omega);have S2:=S 2 64 (by omega);have S3:=S 3 67108864 (by omega);have S4:=S 4 64 (by omega);have S5:=S 5 (p.mx-p.mn+1) (by omega);have S6:=S 6 p.pb (by omega);unfold emitAt jeN;dsimp only;generalize someOf l 0 p.size=a0 at*;generalize someOf l 1 129=a1 at*;generalize someOf l 2 64=a2 at*;generalize someOf l 3 67108864=a3 at*;generalize someOf l 4 64=a4 at*;generalize someOf l 5 (p.mx-p.mn+1)=a5 at*
 generalize someOf l 6 p.pb=a6 at*;have R2:=fun b c=>R.mono (((kac h b).push c).reserve 51);have ld:=fun b c=>(R2 b c).load (k:=u0) hp0;have ix:idxA 1 vp (.int .i64 (u0:Nat))=some (elA 1 vp u0):=R.idx (kk:=.i64) (k:=(u0:Nat)) ⟨by omega,by omega⟩;generalize p.prns.getD u0 0=pr at*;generalize p.size=z at*;obtain⟨pd,o,pb,w,mn,mx,nz,prns⟩:=p;dsimp only at*;refine zf 236 B236 hC ?_;simp only[B236,zB];refine zs5 @R.len @Int.one_mul @hN.2.2 eN1 es ?_;refine kaa (T0 _) (zs6 ix ld @Int.one_mul @hN.2.2 eN1 es ?_);refine kaa (S0 _ zr) (zs ?_)
 refine kaa (S1 _ zr) (zs ?_);refine kaa (S2 _ zr) (zs ?_);refine kaa (S3 _ zr) (zs ?_);refine kaa (S4 _ zr) (zs ?_);refine kaa (S5 _ zr) (zs ?_);refine kaa (S6 _ zr) (zs1 @Heap.wf ?_);refine jae (fun j t h'=>∃(k:Nat) (bv:AV),GrwI h h' bv (bitK l k)/\(∀i∈bv.ids,h.size+1+1+49<i)/\h.size+1+1+49<h'.size/\h'.get (h.size+1)=some (.cells [.int .i64 0,.int .i64 0,.int .i64 0,.int .u32 0,.int .u32 0,.int .i64 0,.int .i64 0,.nilslice] true 0)/\h'.get (h.size+1+1+49)=some (.cells [.int .i64 pr,.int .i64 a0,.int .i64 (a1-64),.int .u32 (a2*67108864+a3),.int .u32 (a4*67108864),.int .i64 (mn+a5),.int .i64 a6,bv] true 0)/\t 2=v/\t 6=.ptr (h.size+1) 0/\t 7=.ptr (h.size+1+1+49) 0/\t 8=.int .i64 ((7+k:Nat):Int)/\k<=min l.length 20-7/\j=min l.length 20-7-k) (j0:=min l.length 20-7)
  ⟨0,.nilslice,kaV zr,by simp[AV.ids],by simp,by exact ze,by exact ze,rfl,rfl,rfl,rfl,by omega,rfl⟩ ?_
 rintro j t H ⟨k,bv,A,hid,hz,g0,g1,e2,e6,e7,e8,hk,hj⟩;have bone:=A.ri.one;have hl1:=hl.mono A.sub;by_cases c:7+k<l.length/\7+k<20
 ·have c1:((7+k:Nat):Int)<l.length:=by omega
  have c2:((7+k:Nat):Int)<20:=by omega
  have pl:=jiL l k;have ps:=jrq l k;have hx1:=hx _ (jam (i:=7+k) c.1);have T1:=fun h1=>jc7 (h:=h1) (x:=l.getD (7+k) 0) (n:=2) hC hx1 (by omega);have ld:=(hl.mono (A.sub.reserve 11)).load (k:=7+k) c.1;have ix:=hl1.idx (kk:=.i64) (k:=((7+k:Nat):Int)) ⟨by omega,by omega⟩;rw[Int.toNat_natCast]at ix;generalize hm:l.getD (7+k) 0% 2=m at*;refine zs7 e2 e7 e8 @hl1.len @gV_u c1 (zI c2 (zI g1 (zI ix ld))) ?_;refine kaa (T1 _) ?_;have hsH:HSub H ((H.reserve 11).put (H.size+7) (.cells [.int .i64 m] true 0)):=((kag H).reserve 11).put (by omega) _
  have hkk:H.size<=H.size+8/\H.size+8<((H.reserve 11).put (H.size+7) (.cells [.int .i64 m] true 0)).size:=⟨by omega,by simp only[Heap.size_put,Heap.size_reserve];omega⟩;have ap:=A.appS (x:=m) _ (H.size+8) hsH hkk (by omega);have gN:((H.reserve 11).put (H.size+7) (.cells [.int .i64 m] true 0)).get (H.size+8)=none:=by
   rw[get_put_ne (by omega),Heap.get_reserve];exact H.wf _ (by omega)
  have Ac:=A.snocS (x:=m) hsH hkk (by omega);rw[<-ps]at ap Ac;have nn1:h.size+1+1+49∉bv.ids:=fun q=>by have:=hid _ q;omega
  have nn0:h.size+1∉bv.ids:=fun q=>by have:=hid _ q;omega
  have q1:(snocH ((H.reserve 11).put (H.size+7) (.cells [.int .i64 m] true 0)) (some (H.size+8)) bv 1 (ints (bitK l (k+1)))).get (h.size+1+1+49)=some (.cells [.int .i64 pr,.int .i64 a0,.int .i64 (a1-64),.int .u32 (a2*67108864+a3),.int .u32 (a4*67108864),.int .i64 (mn+a5),.int .i64 a6,bv] true 0):=(jee (by omega) nn1).trans ((get_put_ne (by omega)).trans ((Heap.get_reserve _ _ _).trans g1));have q0:(snocH ((H.reserve 11).put (H.size+7) (.cells [.int .i64 m] true 0)) (some (H.size+8)) bv 1 (ints (bitK l (k+1)))).get (h.size+1)=some (.cells [.int .i64 0,.int .i64 0,.int .i64 0,.int .u32 0,.int .u32 0,.int .i64 0,.int .i64 0,.nilslice] true 0):=(jee (by omega) nn0).trans ((get_put_ne (by omega)).trans ((Heap.get_reserve _ _ _).trans g0))
  have qz:(snocH ((H.reserve 11).put (H.size+7) (.cells [.int .i64 m] true 0)) (some (H.size+8)) bv 1 (ints (bitK l (k+1)))).size=H.size+11:=by rw[jeU];simp only[Heap.size_put,Heap.size_reserve]
  refine zs6 @cont_slice @contB_one ap gN @appK_none @Heap.wf ?_;generalize hT:(snocH ((H.reserve 11).put (H.size+7) (.cells [.int .i64 m] true 0)) (some (H.size+8)) bv 1 (ints (bitK l (k+1))))=T at*;refine zs7 q0 q1 qz e2 e6 e7 e8 ?_;have idn:∀i∈(AV.slice (H.size+8) 0 ((bitK l k).length+1) (.unk 0)).ids,i=H.size+8:=fun i hi=>by simpa[AV.ids]using hi
  have Ac2:=fun b=>Ac.putNe (i:=h.size+1+1+49) (b:=b) (by omega) (fun j hj=>by have:=idn j hj;omega);exact⟨_,⟨k+1,_,Ac2 _,fun i hi=>by have:=idn i hi;omega,by omega,rfl,by omega,by omega,rfl⟩,by omega⟩
 ·have ek:min l.length 20-7=k:=by omega
  rw[ek];by_cases c1:((7+k:Nat):Int)<l.length
  ·have c2:¬((7+k:Nat):Int)<20:=by omega
   refine zs7 e2 e6 e7 e8 @hl1.len @gV_u (zI c1 (zI c2 (zI g0 g1))) ?_;exact⟨A.sub.put (by omega) _,bv,rfl,(A.putNe (by omega) (fun j hj=>by have:=hid j hj;omega)).ri,fun j hj=>by have:=hid j hj;omega⟩
  ·refine zs7 e2 e6 e7 e8 @hl1.len @gV_u (zI c1 (zI g0 g1)) ?_;exact⟨A.sub.put (by omega) _,bv,rfl,(A.putNe (by omega) (fun j hj=>by have:=hid j hj;omega)).ri,fun j hj=>by have:=hid j hj;omega⟩
def jeO(l:List Int):PlanP:=⟨5+someOf l 0 3,1+someOf l 1 3,1+someOf l 2 3,2,10+someOf l 3 20,10+someOf l 3 20+someOf l 5 3,someOf l 4 200,if someOf l 0 3=2/\someOf l 7 2=1 then[1+someOf l 6 30,1+someOf l 6 30+2]else[1+someOf l 6 30]⟩
theorem jpB(l:List Int):(jeO l).prns=[1+someOf l 6 30]\/(jeO l).prns=[1+someOf l 6 30,1+someOf l 6 30+2]:=by
 unfold jeO;dsimp only;split
 ·exact .inr rfl
 ·exact .inl rfl
def noiV(l:List Int)(z:Int)(i:Nat):Int×Int:=
 if 0<l.length/\l.getD (i% l.length) 0% 3=0 then(z,-z)else(someOf l (2*i% max 1 l.length) (2*z+1)-z,someOf l ((2*i+1)% max 1 l.length) (2*z+1)-z)
def noiL(l:List Int)(z:Int)(k:Nat):List (Int×Int):=(List.range k).map (noiV l z)
theorem jiM(l:List Int)(z:Int)(k:Nat):(noiL l z k).length=k:=by simp[noiL]
theorem jrs(l:List Int)(z:Int)(k:Nat):noiL l z (k+1)=noiL l z k++[noiV l z k]:=by simp[noiL,List.range_succ]
theorem juj{z:Int}(hz:0<=z)(i:Nat):inS z (noiV l z i):=by
 have h0:=jah (l:=l) (i:=2*i% max 1 l.length) (n:=2*z+1) (by omega);have h1:=jah (l:=l) (i:=(2*i+1)% max 1 l.length) (n:=2*z+1) (by omega);unfold noiV inS;split
 ·dsimp only;omega
 ·dsimp only;omega
theorem jrt{z:Int}(hz:0<=z){k:Nat}:∀x∈noiL l z k,inS z x:=by
 intro x hx;obtain⟨i,_,rfl⟩:=List.mem_map.1 hx;exact juj hz i
def alI(p:PlanP)(e:EmitP)(a k:Int):Prop:=e.dl+k*p.size+k*e.rt/1024-a<p.o/\a-(e.dl+k*p.size+k*e.rt/1024)<p.o
instance (p:PlanP) (e:EmitP) (a k:Int):Decidable (alI p e a k):=by unfold alI;exact inferInstance
def alB(p:PlanP)(e:EmitP)(a:Int):Bool:=(List.range 7).any fun i=>decide (alI p e a (Int.tdiv (a-e.dl) p.size-3+(i:Nat)))
theorem jkO{h:Heap}{k sz bytes i o n c m:Nat}{news vs:List AV}{u:Nat}(h1:o+n*sz<=vs.length)(h2:c<n+m)(h3:(n+m)*bytes<=1099511627776):
  appKB h (some k) sz bytes i o n c m news (some (.cells vs true u))=kept k h (h.get k) (fun k _ p=>some (.slice k 0 (n+m) (.unk 0),p (.cells (cut vs o (n*sz)++news) true sz))):=by
 simp only[appKB];rw[if_pos h1,if_neg (by omega)];simp only[jeB,kept];cases hg:h.get k with
 |none=>by_cases hn:k<h.size<;>simp[hn,Heap.nid,Heap.new]<;>omega
 |some b=>simp
theorem jmb(hC:Has C TA){vp v:AV}{p:PlanP}{l:List Int}{m:Nat}{h:Heap}(v1:vp.one=true)(hz:0<=p.nz/\p.nz<=100000)(hl:RI h v l)(hx:∀x∈l,In64 x)(hm:m<=1048576):
  ACalls C 344 [plA p vp,v,.int .i64 (m:Nat)] h (fun r h'=>HSub h h'/\SI h' r (noiL l p.nz m)):=by
 have hlt:=hl.lt;have S:=fun(i:Nat) h1 (q:HSub h h1)=>jeM hC (i:=i) (n:=2*p.nz+1) (hl.mono q) hx (by omega);have T3:=fun(x:Int) (hx:In64 x) h1=>jc7 (h:=h1) (x:=x) (n:=3) hC hx (by omega);have rg:=fun i=>jah (l:=l) (i:=i) (n:=2*p.nz+1) (by omega);unfold plA;have q6:([.int .i64 p.d,.int .i64 p.o,.int .i64 p.pb,.int .i64 p.w,.int .i64 p.mn,.int .i64 p.mx,.int .i64 p.nz,vp]:List AV)[6]? =some (.int .i64 p.nz):=rfl;have pone:([.int .i64 p.d,.int .i64 p.o,.int .i64 p.pb,.int .i64 p.w,.int .i64 p.mn,.int .i64 p.mx,.int .i64 p.nz,vp]:List AV).all AV.one=true:=by simp only[List.all_cons,List.all_nil,jfp,v1,Bool.and_self]
 generalize ([.int .i64 p.d,.int .i64 p.o,.int .i64 p.pb,.int .i64 p.w,.int .i64 p.mn,.int .i64 p.mx,.int .i64 p.nz,vp]:List AV)=pc at*;generalize p.nz=z at*;have hs1:=kac h (.cells pc true 0);have gp:=get_push_eq (h:=h) (b:=.cells pc true 0) (i:=h.size) rfl;have L:=hl.len;refine zf 344 B344 hC ?_;simp only[B344,zB];refine zs ?_;refine jae (fun j t h'=>∃k:Nat,GrwS (h.push (.cells pc true 0)) h' (t 7) (noiL l z k)/\t 1=v/\t 2=.int .i64 (m:Nat)/\t 3=.ptr h.size 0/\t 8=.int .i64 (k:Nat)/\k<=m/\j=m-k) (j0:=m)
  ⟨0,kbG _,rfl,rfl,rfl,rfl,by omega,rfl⟩ ?_
 rintro j t H ⟨k,A,e1,e2,e3,e8,hk,hj⟩;have g:=(A.sub.get _ (by simp)).trans gp;have ll:=jiM l z k;have sH:=hs1.trans A.sub;refine zs2 e2 e8 ?_;refine kaf (fun c=>?_) (fun c=>?_)
 ·have r0:=rg (2*k% max 1 l.length);have r1:=rg ((2*k+1)% max 1 l.length);have S0:=S (2*k% max 1 l.length);have S1:=S ((2*k+1)% max 1 l.length);generalize hY:someOf l (2*k% max 1 l.length) (2*z+1)=y0 at*;generalize hY1:someOf l ((2*k+1)% max 1 l.length) (2*z+1)=y1 at*;have em:((max 1 l.length:Nat):Int)=max 1 (l.length:Int):=by omega
  have e0:((2*k% max 1 l.length:Nat):Int)=2*(k:Int)% max 1 (l.length:Int):=by rw[Int.natCast_emod,em];simp only[Int.natCast_mul,Int.natCast_add,Int.natCast_one,Int.cast_ofNat_Int]
  have e0':(((2*k+1)% max 1 l.length:Nat):Int)=(2*(k:Int)+1)% max 1 (l.length:Int):=by rw[Int.natCast_emod,em];simp only[Int.natCast_mul,Int.natCast_add,Int.natCast_one,Int.cast_ofNat_Int]
  rw[e0]at S0;rw[e0']at S1;refine zs6 e1 e3 e8 L g q6 ?_;refine kaa (S0 _ sH) (zs6 e1 e3 e8 L g q6 ?_);refine kaa (S1 _ sH) (zs6 e1 e3 e8 L g q6 ?_);have fin:∀x y,noiV l z k=(x,y)->(∀(H':Heap),HSub H H'->jav H' none 2 16 (t 7) 1 [.int .i64 x,.int .i64 y]=some (.slice H'.size 0 (k+1) (.unk 0),snocH H' none (t 7) 2 (smps (noiL l z (k+1)))))/\
    GrwS (h.push (.cells pc true 0)) (snocH (H.push (.cells [.int .i64 x,.int .i64 y] true 0)) none (t 7) 2 (smps (noiL l z (k+1)))) (.slice (H.size+1) 0 (k+1) (.unk 0)) (noiL l z (k+1)):=by
   intro x y e;rw[jrs,e];have q:=A.snoc (x:=x) (y:=y) (kac H (.cells [.int .i64 x,.int .i64 y] true 0)) (by omega);rw[ll]at q;refine⟨fun H' hH=>?_,by simpa using q⟩;rw[A.app (x:=x) (y:=y) H' hH (by omega),ll]
  refine kaf (fun c1=>?_) (fun c1=>?_)
  ·have hk2:k% l.length<l.length:=Nat.mod_lt _ (by omega);have hx2:=hx _ (jam hk2);have e2k:((k% l.length:Nat):Int)=(k:Int)% (l.length:Int):=Int.natCast_emod _ _;have ix:=hl.idx (kk:=.i64) (k:=((k% l.length:Nat):Int)) ⟨by omega,by omega⟩;have ldk:=fun H' (q:HSub h H')=>(hl.mono q).load (k:=k% l.length) hk2;have T3k:=T3 _ hx2;rw[Int.toNat_natCast,e2k]at ix;refine zs6 e1 e8 L ix ldk sH ?_;refine kaa (T3k _) ?_;by_cases c2:l.getD (k% l.length) 0% 3=0
   ·have f:=fin z (-z) (by unfold noiV;rw[if_pos ⟨by omega,c2⟩]);have f1:=f.1;have e0:0-z= -z:=by omega
    refine zs7 c2 e3 e8 g q6 @cont_slice (zI @contB_two (zI f1 e0)) ?_;exact⟨_,⟨k+1,f.2,e1,e2,by omega,by omega,rfl⟩,by omega⟩
   ·have f:=fin (y0-z) (y1-z) (by unfold noiV;rw[if_neg (fun q=>c2 q.2),hY,hY1]);have f1:=f.1;refine zs5 c2 e8 @cont_slice @contB_two f1 ?_;exact⟨_,⟨k+1,f.2,e1,e2,e3,by omega,by omega,rfl⟩,by omega⟩
  ·have f:=fin (y0-z) (y1-z) (by unfold noiV;rw[if_neg (fun q=>c1 (by omega)),hY,hY1]);have f1:=f.1;refine zs6 @gV_u c1 e8 @cont_slice @contB_two f1 ?_;exact⟨_,⟨k+1,f.2,e1,e2,e3,by omega,by omega,rfl⟩,by omega⟩
 ·obtain rfl:k=m:=by omega
  refine zs ?_;exact⟨sH,A.si⟩
def rndI(x s:Int):Int:=if s=0 then x else if x<0 then-((-x+2^(s-1).toNat)/2^s.toNat)else(x+2^(s-1).toNat)/2^s.toNat
theorem jru{s:Int}(h:1<=s):(2:Int)^s.toNat=2*2^(s-1).toNat:=by
 obtain⟨k,hk⟩:=Int.eq_ofNat_of_zero_le (show 0<=s-1 by omega);have e:s.toNat=k+1:=by omega
 rw[hk,Int.toNat_natCast,e,Int.pow_succ,Int.mul_comm]
theorem jhA{x s:Int}(h:0<=s/\s<=30): -coarI s<=2^s.toNat*rndI x s-x/\2^s.toNat*rndI x s-x<=coarI s:=by
 unfold rndI coarI;by_cases c:s=0
 ·subst c;simp
 ·rw[if_neg c];have p:=jcP (s:=s-1) (by omega);rw[jru (by omega)];generalize (2:Int)^(s-1).toNat=P at*;have e2:2*P/2=P:=by omega
  rw[e2];split
  ·have a:=Int.ediv_mul_le (-x+P) (show 2*P≠0 by omega);have b:=Int.lt_ediv_add_one_mul_self (-x+P) (show 0<2*P by omega);generalize (-x+P)/(2*P)=q at*;rw[Int.add_mul,Int.one_mul]at b;rw[Int.mul_neg,Int.mul_comm (2*P) q];generalize q*(2*P)=Y at*;omega
  ·have a:=Int.ediv_mul_le (x+P) (show 2*P≠0 by omega);have b:=Int.lt_ediv_add_one_mul_self (x+P) (show 0<2*P by omega);generalize (x+P)/(2*P)=q at*;rw[Int.add_mul,Int.one_mul]at b;rw[Int.mul_comm (2*P) q];generalize q*(2*P)=Y at*;omega
theorem jmc{x s M:Int}(h:0<=s/\s<=30)(hx: -M<=x/\x<=M): -(M+536870912)<=rndI x s/\rndI x s<=M+536870912:=by
 unfold rndI;by_cases c:s=0
 ·rw[if_pos c];omega
 ·rw[if_neg c];have p:=jcP (s:=s-1) (by omega);have p29:(2:Int)^(s-1).toNat<=536870912:=by
   have:=jcP h;rw[jru (by omega)]at this;omega
  have p2:=jcP h;split
  ·have a:=Int.ediv_nonneg (show 0<= -x+2^(s-1).toNat by omega) (show 0<=(2:Int)^s.toNat by omega);have b:=Int.ediv_le_self (2^s.toNat) (show 0<= -x+2^(s-1).toNat by omega);omega
  ·have a:=Int.ediv_nonneg (show 0<=x+2^(s-1).toNat by omega) (show 0<=(2:Int)^s.toNat by omega);have b:=Int.ediv_le_self (2^s.toNat) (show 0<=x+2^(s-1).toNat by omega);omega
def topI(b:Int):Int:=2^(b-1).toNat-1
def lvlI(b s x:Int):Int:=if topI b<rndI x s then topI b else if rndI x s< -topI b then-topI b else rndI x s
def lostB(b s x:Int):Bool:=decide (topI b<rndI x s\/rndI x s< -topI b)
theorem jmd(h:2<=b/\b<=8):1<=topI b/\topI b<=127:=by
 unfold topI;rcases(show b=2\/b=3\/b=4\/b=5\/b=6\/b=7\/b=8 by omega)with e|e|e|e|e|e|e<;>rw[e]<;>decide
def qntL(b s:Int)(l:List (Int×Int)):List (Int×Int):=l.map fun x=>(lvlI b s x.1,lvlI b s x.2)
def qntK(b s:Int)(l:List (Int×Int))(k:Nat):List (Int×Int):=(List.range l.length).map fun i=>if i<k then(lvlI b s (l.getD i (0,0)).1,lvlI b s (l.getD i (0,0)).2)else(0,0)
theorem jiN{s:Int}{l:List (Int×Int)}{k:Nat}:(qntK b s l k).length=l.length:=by simp[qntK]
theorem jrv{s:Int}{l:List (Int×Int)}:qntK b s l 0=List.replicate l.length (0,0):=by
 refine List.ext_getElem (by simp[qntK]) fun i h1 h2=>?_;simp[qntK]
theorem js2{s:Int}{l:List (Int×Int)}{k:Nat}(hk:k<l.length):(qntK b s l k).set k (lvlI b s (l.getD k (0,0)).1,lvlI b s (l.getD k (0,0)).2)=qntK b s l (k+1):=by
 refine List.ext_getElem (by simp[qntK]) fun i h1 h2=>?_;simp only[qntK,List.getElem_set,List.getElem_map,List.getElem_range];by_cases c:k=i
 ·subst c;simp
 ·rw[if_neg c];by_cases c2:i<k
  ·rw[if_pos c2,if_pos (by omega)]
  ·rw[if_neg c2,if_neg (by omega)]
theorem js3{s:Int}{l:List (Int×Int)}:qntK b s l l.length=qntL b s l:=by
 refine List.ext_getElem (by simp[qntK,qntL]) fun i h1 h2=>?_;have hi:i<l.length:=by simpa[qntK]using h1
 simp[qntK,qntL,hi]
def lostK(b s:Int)(l:List (Int×Int)):Nat->Int
 |0=>0
 |k+1=>lostK b s l k+if(lostB b s (l.getD k (0,0)).1||lostB b s (l.getD k (0,0)).2)=true then 1 else 0
theorem jfB{b s:Int}{l:List (Int×Int)}:∀k:Nat,0<=lostK b s l k/\lostK b s l k<=k
 |0=>by simp[lostK]
 |k+1=>by
  have:=jfB (b:=b) (s:=s) (l:=l) k;unfold lostK;split<;>omega
theorem jgS{b s:Int}{l:List (Int×Int)}:∀{k:Nat},lostK b s l k=0->∀i,i<k->lostB b s (l.getD i (0,0)).1=false/\lostB b s (l.getD i (0,0)).2=false
 |0,_,i,hi=>absurd hi (Nat.not_lt_zero i)
 | k + 1, h, i, hi => by
  have r:=jfB (b:=b) (s:=s) (l:=l) k;unfold lostK at h;split at h
  ·omega
  ·rename_i c;rcases Nat.lt_or_ge i k with x|x
   ·exact jgS (by omega) i x
   ·obtain rfl:i=k:=by omega
    simpa using c
def inQ(x:Int):Prop:= -70368744177664<=x/\x<=70368744177664
theorem SI.putI{l:List (Int×Int)}{b:ABlk}(H:SI h v l)(hd:∀j∈v.ids,j≠i):SI (h.put i b) v l:=by
 obtain⟨hl,hn,⟨rfl,h1⟩|⟨j,o,c,ws,wr,u,rfl,hg,h2⟩⟩:=H
 ·exact⟨hl,hn,.inl ⟨rfl,h1⟩⟩
 ·exact⟨hl,hn,.inr ⟨j,o,c,ws,wr,u,rfl,(get_put_ne (hd j (by simp[AV.ids]))).trans hg,h2⟩⟩
theorem jfh(hC:Has C TA){x s:Int}(hx:inQ x)(h0:0<=x)(hs:0<=s/\s<=30):ACalls C 360 [.int .i64 x,.int .i64 s] h (fun r h'=>r=.int .i64 (rndI x s)/\h'=h):=by
 unfold inQ at hx;unfold rndI;by_cases c:s=0
 ·rw[if_pos c];refine zf 360 B360 hC ?_;simp only[B360,zB];exact ze1 c
 ·rw[if_neg c,if_neg (by omega)];have p:=jcP (s:=s-1) (by omega);have fd:=Int.fdiv_eq_ediv_of_nonneg (x+2^(s-1).toNat) (show 0<=(2:Int)^s.toNat by have:=jcP hs;omega);refine zf 360 B360 hC ?_;simp only[B360,zB];exact ze3 c @Int.one_mul fd
theorem jiO(hC:Has C TA){x s:Int}(hx:inQ x)(hs:0<=s/\s<=30):ACalls C 360 [.int .i64 x,.int .i64 s] h (fun r h'=>r=.int .i64 (rndI x s)/\h'=h):=by
 by_cases c:x<0
 ·have hx':inQ (-x):=by unfold inQ at*;omega
  have k:=fun H=>jfh (h:=H) hC hx' (by omega) hs;have e:rndI x s= -rndI (-x) s:=by
   unfold rndI;by_cases c2:s=0
   ·rw[if_pos c2,if_pos c2];omega
   ·rw[if_neg c2,if_neg c2,if_pos c,if_neg (by omega)]
  have r:=jmc (x:= -x) (s:=s) (M:=70368744177664) hs hx';unfold inQ at hx;rw[e];generalize rndI (-x) s=q at*;have e0:(0:Int)-x= -x:=by omega
  have e1:(0:Int)-q= -q:=by omega
  refine zf 360 B360 hC ?_;simp only[B360,zB];refine zs2 c e0 ?_;refine kaa (k _) ?_;exact ze1 e1
 ·exact jfh hC hx (by omega) hs
theorem jny(hC:Has C TA){s:Int}(hb:2<=b/\b<=8):ACalls C 361 [gA b s] h (fun r h'=>r=.int .i64 (topI b)/\h'=h):=by
 refine kae (P:=fun r h'=>r=.int .i64 (topI b)/\HSub h h') ?_ (fun r h' hp=>⟨by rw[hp.1];trivial,hp.2,hp.1,rfl⟩);have t:=jmd hb;unfold topI at*;unfold gA;refine zf 361 B361 hC ?_;simp only[B361,zB];refine zs1 @Int.one_mul ?_;exact zr
def lvlE(b s x:Int):AV:=.tuple [.int .i64 (lvlI b s x),.bool (lostB b s x)]
theorem jkP(hC:Has C TA){s x:Int}(hg:gErr b s=0)(hx:inQ x):ACalls C 359 [gA b s,.int .i64 x] h (fun r h'=>r=lvlE b s x/\h'=h):=by
 refine kae (P:=fun r h'=>r=lvlE b s x/\HSub h h') ?_ (fun r h' hp=>⟨by rw[hp.1];exact⟨trivial,trivial,trivial⟩,hp.2,hp.1,rfl⟩);have g:=jcs hg;have k1:=fun H=>jiO hC (h:=H) hx g.2.2;have k2:=fun H=>jny hC (s:=s) (h:=H) (b:=b) (by omega);have t:=jmd (b:=b) (by omega);have r:=jmc (x:=x) (s:=s) (M:=70368744177664) g.2.2 hx;unfold lvlE lvlI lostB;unfold gA at*;generalize topI b=T at*;generalize rndI x s=q at*;have e1:(0:Int)-T= -T:=by omega
 refine zf 359 B359 hC ?_;simp only[B359,zB];refine zs ?_;refine kaa (k1 _) (zs ?_);refine kaa (k2 _) ?_;by_cases c1:T<q
 ·rw[if_pos c1,decide_eq_true (.inl c1)];refine zs1 c1 ?_;exact zr
 ·rw[if_neg c1];by_cases c2:q< -T
  ·rw[if_pos c2,decide_eq_true (.inr c2)];refine zs3 c1 c2 e1 ?_;exact zr
  ·rw[if_neg c2,decide_eq_false (by omega)];refine zs3 c1 c2 e1 ?_;exact zr
theorem jme(hC:Has C TA){x:Int}:ACalls C 358 [.int .i64 x] h (fun r h'=>r=.bool (decide (-70368744177664<=x/\x<=70368744177664))/\h'=h):=by
 by_cases c1: -70368744177664<=x
 ·by_cases c2:x<=70368744177664
  ·rw[decide_eq_true ⟨c1,c2⟩];refine zf 358 B358 hC ?_;simp only[B358,zB];exact ze3 c1 c2 @gV_u
  ·rw[decide_eq_false (fun q=>c2 q.2)];refine zf 358 B358 hC ?_;simp only[B358,zB];exact ze3 c1 c2 @gV_u
 ·rw[decide_eq_false (fun q=>c1 q.1)];refine zf 358 B358 hC ?_;simp only[B358,zB];exact ze2 c1 @gV_u
theorem jkQ(hC:Has C TA){l:List (Int×Int)}(S:SI h v l)(hl:l.length<=1048576)(hq:∀x∈l,inQ x.1/\inQ x.2):ACalls C 353 [v] h (fun r h'=>r=.int .i64 0/\h'=h):=by
 have kp:=fun x H=>jme hC (x:=x) (h:=H);refine zf 353 B353 hC ?_;simp only[B353,zB];refine zs1 @S.len ?_;refine jae (fun j t h'=>h'=h/\∃k:Nat,t 0=v/\t 3=.int .i64 (k:Nat)/\k<=l.length/\j=l.length-k) (j0:=l.length)
  ⟨rfl,0,rfl,rfl,by omega,rfl⟩ ?_
 rintro j t h' ⟨rfl,k,e0,e3,hk,hj⟩;refine zs3 e0 e3 @S.len ?_;refine kaf (fun c=>?_) (fun c=>?_)
 ·have hk':k<l.length:=by omega
  have q:=hq _ (jcg hk');have k1:=fun H=>kp (l.getD k (0,0)).1 H;have k2:=fun H=>kp (l.getD k (0,0)).2 H;have d1:decide (-70368744177664<=(l.getD k (0,0)).1/\(l.getD k (0,0)).1<=70368744177664)=true:=decide_eq_true q.1;have d2:decide (-70368744177664<=(l.getD k (0,0)).2/\(l.getD k (0,0)).2<=70368744177664)=true:=decide_eq_true q.2;rw[d1]at k1;rw[d2]at k2;refine zs6 e0 e3 @S.idx @S.fld (S.load0 hk') (S.load1 hk') ?_;refine kaa (k1 _) (zs7 e0 e3 @S.idx @S.fld (S.load0 hk') (S.load1 hk') @gV_u ?_);refine kaa (k2 _) (zs3 e0 e3 @gV_u ?_);exact⟨_,⟨k+1,by omega,by omega,rfl⟩,by omega⟩
 ·exact ze
theorem jgT(hC:Has C TA){v:AV}{l:List (Int×Int)}{b s:Int}{h:Heap}(S:SI h v l)(hg:gErr b s=0)(hl:l.length<=1048576)(hq:∀x∈l,inQ x.1/\inQ x.2):
  ACalls C 354 [v,gA b s] h (fun r h'=>HSub h h'/\∃w,r=.agg [w,.int .i64 (lostK b s l l.length)]/\SI h' w (qntL b s l)/\(∀i∈w.ids,h.size<=i)/\∃i o n c,w=.slice i o n (.known c)):=by
 have v1:=S.one;have kl:=fun x H (hx:inQ x)=>jkP hC (h:=H) hg hx;unfold lvlE gA at*;have zr9:=jbv (p:=(0,0)) (n:=l.length);simp only at zr9;rw[<-jrv (b:=b) (s:=s)]at zr9;refine zf 354 B354 hC ?_;simp only[B354,zB];refine zs2 @S.len zr9 ?_;refine jae (fun j t h'=>HSub h h'/\∃k:Nat,h'.get h.size=some (.cells [.int .i64 b,.int .i64 s] true 0)/\h'.get (h.size+1)=some (.cells [.nilslice,.int .i64 0] true 0)/\h'.get (h.size+2)=some (.cells (smps (qntK b s l k)) true 0)/\h'.get (h.size+3)=some (.cells [.slice (h.size+2) 0 l.length (.known l.length),.int .i64 (lostK b s l k)] true 0)/\
  t 0=v/\t 3=.ptr h.size 0/\t 4=.ptr (h.size+1) 0/\t 5=.ptr (h.size+3) 0/\t 6=.int .i64 (k:Nat)/\k<=l.length/\j=l.length-k) (j0:=l.length)
  ⟨zr,0,by exact ze,by exact ze,by exact ze,by refine zs ?_;rfl,rfl,rfl,rfl,rfl,rfl,by omega,rfl⟩ ?_
 rintro j t h1 ⟨sH,k,g0,g1,g2,g3,e0,e3,e4,e5,e6,hk,hj⟩;have S1:=S.mono sH;have z3:=kab g3;refine zs3 e0 e6 @S1.len ?_;refine kaf (fun c=>?_) (fun c=>?_)
 ·have hk':k<l.length:=by omega
  have q:=hq _ (jcg hk');have k1:=fun H=>kl _ H q.1;have k2:=fun H=>kl _ H q.2;have lr:=jfB (b:=b) (s:=s) (l:=l) k;have ls:lostK b s l (k+1)=lostK b s l k+if(lostB b s (l.getD k (0,0)).1||lostB b s (l.getD k (0,0)).2)=true then 1 else 0:=rfl
  have st:=js2 (b:=b) (s:=s) hk';have sp:=jda (l:=qntK b s l k) (k:=k) (p:=(lvlI b s (l.getD k (0,0)).1,lvlI b s (l.getD k (0,0)).2)) (by rw[jiN];exact hk');rw[st]at sp;have ln2:(smps (qntK b s l k)).length=l.length*2:=by rw[jaV,jiN]
  dsimp only at sp;have ld0:=S1.load0 hk';have ld1:=S1.load1 hk';generalize lvlI b s (l.getD k (0,0)).1=y1 at*;generalize lvlI b s (l.getD k (0,0)).2=y2 at*;generalize lostB b s (l.getD k (0,0)).1=b1 at*;generalize lostB b s (l.getD k (0,0)).2=b2 at*;refine zs7 e0 e3 e6 g0 @S1.idx @S1.fld ld0 ?_;refine kaa (k1 _) (zs7 e0 e3 e6 g0 @S1.idx @S1.fld ld1 ?_);refine kaa (k2 _) ?_;cases b1 with
  |true=>
   simp only[Bool.true_or,if_true]at ls;refine zs7 e0 e3 e4 e5 e6 g1 (zI g2 (zI g3 (zI sp (zI ln2 @gV_u)))) ?_;exact⟨_,⟨HSub.put (HSub.put sH (by omega) _) (by omega) _,k+1,g0,rfl,by rw[ls],by omega,by omega,rfl⟩,by omega⟩
  | false =>
   cases b2 with
   |true=>
    simp only[Bool.false_or,if_true]at ls;refine zs7 e0 e3 e4 e5 e6 g1 (zI g2 (zI g3 (zI sp (zI ln2 @gV_u)))) ?_;exact⟨_,⟨HSub.put (HSub.put sH (by omega) _) (by omega) _,k+1,g0,rfl,by rw[ls],by omega,by omega,rfl⟩,by omega⟩
   |false=>
    simp only[Bool.false_or,Bool.false_eq_true,if_false,Int.add_zero]at ls;refine zs7 e0 e3 e4 e5 e6 g1 (zI g2 (zI g3 (zI sp (zI ln2 @gV_u)))) ?_;exact⟨_,⟨HSub.put sH (by omega) _,k+1,g0,rfl,by rw[ls],by omega,by omega,rfl⟩,by omega⟩
 ·obtain rfl:k=l.length:=by omega
  rw[js3]at g2;refine zs4 e4 e5 g1 g3 ?_;refine⟨HSub.put sH (by omega) _,_,rfl,kaM (u:=0) ((get_put_ne (by omega)).trans g2) ⟨by simp[qntL],by omega⟩ (Nat.le_refl _),fun i hi=>by simp only[AV.ids,List.mem_singleton]at hi;omega,_,_,_,_,rfl⟩
theorem jkR(hC:Has C TA){v:AV}{l:List (Int×Int)}{b s:Int}{h:Heap}(S:SI h v l)(hg:gErr b s=0)(hl:l.length<=1048576)(hq:∀x∈l,inQ x.1/\inQ x.2):
  ACalls C 345 [v,gA b s] h (fun r h'=>HSub h h'/\∃w,r=.tuple [.agg [w,.int .i64 (lostK b s l l.length)],.int .i64 0]/\SI h' w (qntL b s l)/\∃i o n c,w=.slice i o n (.known c)):=by
 have v1:=S.one;have k1:=fun H=>jfx hC (h:=H) (b:=b) (s:=s);have k2:=fun H (q:HSub h H)=>jkQ hC (h:=H) (S.mono q) hl hq;have k3:=fun H (q:HSub h H)=>jgT hC (h:=H) (S.mono q) hg hl hq;rw[hg]at k1;unfold gA at*;refine zf 345 B345 hC ?_;simp only[B345,zB];refine zs ?_;refine kaa (k1 _) (zs ?_);refine kaa (k2 _ zr) (zs ?_);refine kad (k3 _ zr) ?_;rintro r h1 ⟨s1,w,rfl,W,fr,Kw⟩;simp only[Heap.size_push]at fr;have g1:=(s1.get (h.size+1) (by simp only[Heap.size_push];omega)).trans (show _=some (ABlk.cells [.nilslice,.int .i64 0] true 0)by exact ze)
 have w1:=W.one;have hs1:=(show HSub h _ from zr).trans s1;have z1:=s1.size;simp only[Heap.size_push]at z1;refine zs1 g1 ?_;exact⟨HSub.put hs1 (by omega) _,w,rfl,W.putI (fun j hj=>by have:=fr j hj;omega),Kw⟩
def cutE(l:List Int)(k:Nat):List Int:=(l.drop (min l.length (3+20*k))).take (min l.length (min l.length (3+20*k)+20)-min l.length (3+20*k))
def esK(p:PlanP)(l:List Int):Nat->List EmitP
 |0=>[]
 |k+1=>if someOf l k 3=0 then esK p l k else esK p l k++[emitAt p k (cutE l k)]
theorem jrw(p:PlanP)(l:List Int):∀k,(esK p l k).length<=k
 |0=>Nat.le_refl _
 |k+1=>by
  have:=jrw p l k;unfold esK;split
  ·omega
  ·rw[List.length_append,List.length_singleton];omega
theorem jpC{k:Nat}(hp:p.err=0)(hk:k<p.prns.length):emitErr p (emitAt p k l)=0:=by
 have e:=jpA (l:=l) hp;unfold emitErr at e|-;rw[if_pos hp]at e|-;have ha:(p.prns.any fun y=>(emitAt p k l).prn==y)=true:=by
  rw[List.any_eq_true];exact⟨_,jam hk,by simp[emitAt]⟩
 rw[if_pos ha];split at e
 ·exact e
 ·cases e
theorem jrx{k:Nat}(hp:p.numsOk)(h64:p.ok64)(hk:k<p.prns.length):(emitAt p k l).ok64:=by
 have h:=jrr (l:=l) hp h64 (by omega);exact⟨h64.2.2.2.2.2.2.2 _ (jam hk),h.2⟩
theorem jry{p:PlanP}{l:List Int}(hp:p.err=0)(pn:p.numsOk)(h64:p.ok64):∀k,k<=p.prns.length->∀e∈esK p l k,emitErr p e=0/\e.ok64/\∃i,i<k/\e.prn=p.prns.getD i 0
 |0,_,e,he=>by simp[esK]at he
 | k + 1, hk, e, he => by
  have ih:=jry (l:=l) hp pn h64 k (by omega) e;unfold esK at he;split at he
  ·obtain⟨a,b,i,c,d⟩:=ih he;exact⟨a,b,i,by omega,d⟩
  ·rcases List.mem_append.1 he with he|he
   ·obtain⟨a,b,i,c,d⟩:=ih he;exact⟨a,b,i,by omega,d⟩
   ·rw[List.mem_singleton]at he;subst he;exact⟨jpC hp hk,jrx pn h64 hk,k,by omega,rfl⟩
theorem jrz{p:PlanP}{l:List Int}(nd:p.prns.Nodup)(hp:p.err=0)(pn:p.numsOk)(h64:p.ok64):∀k,k<=p.prns.length->((esK p l k).map (·.prn)).Nodup
 |0,_=>by simp[esK]
 |k+1,hk=>by
  have ih:=jrz (l:=l) nd hp pn h64 k (by omega);unfold esK;split
  ·exact ih
  ·rw[List.map_append,List.nodup_append];refine⟨ih,by simp,?_⟩;intro a ha b hb e;subst e;simp only[List.map_cons,List.map_nil,List.mem_singleton]at hb;obtain⟨e,he,rfl⟩:=List.mem_map.1 ha;obtain⟨_,_,i,hi,q⟩:=jry hp pn h64 k (by omega) e he;have q2:p.prns.getD i 0=p.prns.getD k 0:=q.symm.trans hb;rw[List.getD_eq_getElem?_getD,List.getD_eq_getElem?_getD,List.getElem?_eq_getElem (by omega),List.getElem?_eq_getElem (by omega),Option.getD_some,Option.getD_some]at q2;exact List.pairwise_iff_getElem.1 nd i k (by omega) (by omega) hi q2
theorem jmf{p:PlanP}{es:List EmitP}(h:∀e∈es,emitErr p e=0)(nd:(es.map (·.prn)).Nodup):∀n,n<=es.length->emsE p es n=0
 |0,_=>rfl
 |n+1,hn=>by
  have ih:=jmf h nd n (by omega);have e:es.getD n eD=es[n]:=by rw[List.getD_eq_getElem?_getD,List.getElem?_eq_getElem (by omega),Option.getD_some]
  refine jl7 ih (by rw[e];exact h _ (List.getElem_mem _)) (fun i hi q=>?_);have e2:es.getD i eD=es[i]:=by rw[List.getD_eq_getElem?_getD,List.getElem?_eq_getElem (by omega),Option.getD_some]
  rw[e,e2]at q;have q2:(es.map (·.prn))[i]'(by simp;omega)=(es.map (·.prn))[n]'(by simp;omega):=by simpa using q
  exact List.pairwise_iff_getElem.1 nd i n (by simp;omega) (by simp;omega) hi q2
theorem jmg{es:List EmitP}{ns:List (Int×Int)}{m:Int}(hp:p.err=0)(hl:es.length<=8)(h:∀e∈es,emitErr p e=0)(nd:(es.map (·.prn)).Nodup)(hm:0<=m/\m<=1048576)(hn:ns.length<=m)(hns:∀x∈ns,inS p.nz x):jbN p es ns m=0:=by
 unfold jbN;rw[if_neg (by rw[hp];decide),if_neg (by omega),if_neg (by rw[jmf h nd _ (Nat.le_refl _)];decide),if_neg (by omega),if_neg (by omega),if_neg (fun⟨x,hx,q⟩=>q (hns x hx))]
theorem kbE{a b:Nat}{k1 k2:IntKind}(H:RI h v l)(K:KnownCap v)(hab:a<=b/\b<=l.length):∃v',(∀h',jaO h' 1 v (some (.int k1 (a:Nat))) (some (.int k2 (b:Nat))) none=some v')/\RI h v' ((l.drop a).take (b-a)):=by
 obtain⟨hl,hlt,⟨rfl,h1⟩|⟨i,o,cp,vs,wr,u,rfl,hg,hle,hc,hcap⟩⟩:=H
 ·have e:l=[]:=List.eq_nil_of_length_eq_zero (by omega);subst e;have:a=0:=by simp at hab;omega
  have:b=0:=by simp at hab;omega
  subst a;subst b;exact⟨.nilslice,fun _=>rfl,kav⟩
 ·obtain⟨c,rfl⟩:∃c,cp=.known c:=by
   rcases K with K|⟨_,_,_,c,K⟩
   ·cases K
   ·cases K;exact⟨c,rfl⟩
  dsimp only at hcap;have hbd:jca l.length c (some (.int k1 (a:Nat))) (some (.int k2 (b:Nat))) none=some (a,b,c):=jcE (len:=l.length) (cap:=c) (a:=a) (b:=b) (c:=c) rfl rfl rfl ⟨hab.1,by omega,Nat.le_refl _⟩;refine⟨.slice i (if c=a then o else o+a*1) (b-a) (.known (c-a)),fun _=>by simp only[jaO,hbd],?_⟩;have ll:((l.drop a).take (b-a)).length=b-a:=by rw[List.length_take,List.length_drop];omega
  unfold RI;rw[ll];refine⟨by simp[ints];omega,by omega,.inr ⟨i,_,_,vs,wr,u,rfl,hg,?_,?_,by dsimp only;omega⟩⟩
  ·split<;>omega
  ·have e1:ints ((l.drop a).take (b-a))=((ints l).drop a).take (b-a):=by simp[ints,List.map_take,List.map_drop]
   rw[e1,<-hc];split
   ·rename_i e;have:b-a=0:=by omega
    rw[this];simp[cut]
   ·simp only[cut,Nat.mul_one,List.drop_take,List.drop_drop,List.take_take];congr 1;omega
theorem jjJ{p:Int}{o:Nat}(ho:1<=o)(h:i<lenN d*o):(sampL d p o).getD i 0=(codeL d p).getD (i/o) 0:=by
 have key:∀(l:List Int) (i:Nat),i<l.length*o->((l.map fun x=>List.replicate o x).flatten).getD i 0=l.getD (i/o) 0:=by
  intro l
  induction l with
  |nil=>intro i hi;simp at hi
  | cons x l ih =>
   intro i hi;rw[List.map_cons,List.flatten_cons,List.getD_eq_getElem?_getD];rcases Nat.lt_or_ge i o with c|c
   ·rw[List.getElem?_append_left (by simpa using c),Nat.div_eq_of_lt c];simp[c]
   ·rw[List.getElem?_append_right (by simpa using c),List.length_replicate,<-List.getD_eq_getElem?_getD,ih (i-o) (by simp[Nat.succ_mul]at hi;omega)];have e:i/o=(i-o)/o+1:=by
     rw[<-Nat.add_div_right _ (by omega)];congr 1;omega
    rw[e,List.getD_cons_succ]
 have:=key (codeL d p) i (by rw[jaM];exact h);exact this
theorem jrA{e:EmitP}(ok:EmOk p e){i:Int}(hi:0<=i):chipI p e i=(sampL p.d e.prn p.o.toNat).getD (min i (p.size-1)).toNat 0:=by
 have sz:=jal ok.pn;have o':=ok.pn.2.1;have hN:=jbk ok.pn.1;obtain⟨o,eo⟩:=Int.eq_ofNat_of_zero_le (show 0<=p.o by omega);have es:p.size=((lenN p.d*o:Nat):Int):=by rw[sz.2.2,eo,Int.toNat_natCast]
 rw[eo,Int.toNat_natCast,jjJ (by omega) (by omega)];unfold chipI;congr 1;rw[eo];obtain⟨m,rfl⟩:=Int.eq_ofNat_of_zero_le hi;have e1:((m:Int)/(o:Int))=((m/o:Nat):Int):=(Int.natCast_ediv m o).symm;rw[e1,es];rcases Nat.lt_or_ge m (lenN p.d*o)with c|c
 ·have q:m/o<lenN p.d:=(Nat.div_lt_iff_lt_mul (by omega)).2 c;rw[show(min (m:Int) (((lenN p.d*o:Nat):Int)-1)).toNat=m by omega];generalize m/o=w at*;omega
 ·have q:lenN p.d<=m/o:=(Nat.le_div_iff_mul_le (by omega)).2 c;rw[show(min (m:Int) (((lenN p.d*o:Nat):Int)-1)).toNat=lenN p.d*o-1 by omega];have q2:(lenN p.d*o-1)/o=lenN p.d-1:=by
   rw[Nat.div_eq_iff (by omega)];obtain⟨N,hN2⟩:∃N,lenN p.d=N+1:=⟨lenN p.d-1,by omega⟩;rw[hN2,Nat.add_sub_cancel,Nat.add_mul];omega
  rw[q2];generalize m/o=w at*;omega
theorem at_in{e:EmitP}(ok:EmOk p e){x K:Int}(h1:e.sta p K<=x)(h2:x<e.sta p (K+1)):atV p e x=(e.amp*(1-2*bitI p e K)*(sampL p.d e.prn p.o.toNat).getD (min (x-e.sta p K) (p.size-1)).toNat 0*(carP (phI e.ph e.st K)).1,e.amp*(1-2*bitI p e K)*(sampL p.d e.prn p.o.toNat).getD (min (x-e.sta p K) (p.size-1)).toNat 0*(carP (phI e.ph e.st K)).2):=by
 have hk:e.pl p x=K:=(pl_of (dl:=e.dl) ok.den h1 h2).symm;unfold atV;rw[hk,jrA ok (by omega)];refine Prod.ext ?_ ?_<;>grind
theorem gM_ge{a b:List Int}{s:Int}{lo:Nat}:∀(k:Nat) (x:Int),x<=gM a b s lo k x
 |0,x=>Int.le_refl _
 |k+1,x=>by have:=gM_ge (a:=a) (b:=b) (s:=s) (lo:=lo) k x;rw[gM];omega
theorem gM_at{a b:List Int}{s:Int}{lo:Nat}{x:Int}:∀(k j:Nat),j<k->plc a b s (lo+j)<=gM a b s lo k x
 |0,j,h=>by omega
 | k + 1, j, h => by
  rw[gM];rcases Nat.lt_or_ge j k with y|y
  ·have:=gM_at (a:=a) (b:=b) (s:=s) (lo:=lo) (x:=x) k j y;omega
  ·have:j=k:=by omega
   subst this;omega
theorem jmh{a b:List Int}{s:Int}{mg:Nat}(hs: -1<=s/\s<=1)(h1:mg<=m)(h2:m-mg<cntM a.length mg s):plc a b s m<=greatI a b mg:=by
 have g:∀x,plc a b s m<=gM a b s mg (cntM a.length mg s) x:=fun x=>by
  have:=gM_at (a:=a) (b:=b) (s:=s) (lo:=mg) (x:=x) (cntM a.length mg s) (m-mg) h2
  rwa [show mg+(m-mg)=m by omega]at this
 unfold greatI;rcases(show s= -1\/s=0\/s=1 by omega)with rfl|rfl|rfl
 ·exact Int.le_trans (g 0) (Int.le_trans (gM_ge _ _) (gM_ge _ _))
 ·exact Int.le_trans (g _) (gM_ge _ _)
 ·exact g _
def winS(a:List Int)(f:Nat->Int):Nat->Int
 |0=>0
 |k+1=>winS a f k+a.getD k 0*f k
theorem jiP{a b:List Int}{f:Nat->Int}{m:Nat}{s g:Int}:∀k,k<=m->(∀i,i<k->f i=g*b.getD (min ((i:Int)-m+a.length+s) ((a.length:Int)-1)).toNat 0)->winS a f k=g*pf a b m s k
 |0,_,_=>by simp[winS,pf]
 |k+1,hk,h=>by
  rw[winS,pf,jiP k (by omega) (fun i hi=>h i (by omega)),h k (by omega),Int.mul_add];congr 1
  grind
theorem jom{a b:List Int}{f:Nat->Int}{m:Nat}{g:Int}:∀k,(∀i,i<k->f (m+i)=g*b.getD i 0)->winS a f (m+k)=winS a f m+g*ps a b m k
 |0,_=>by simp[ps]
 |k+1,h=>by
  rw[<-Nat.add_assoc,winS,ps,jom k (fun i hi=>h i (by omega)),h k (by omega),Int.mul_add]
  grind
def sumW(A:List Int)(v:Nat->Int×Int):Nat->Int×Int
 |0=>(0,0)
 |k+1=>((sumW A v k).1+A.getD k 0*(v k).1,(sumW A v k).2+A.getD k 0*(v k).2)
theorem jgU{A:List Int}{v:Nat->Int×Int}{F:Nat->Int}{g:Int}{c:Int×Int}:∀k,(∀i,i<k->v i=(g*F i*c.1,g*F i*c.2))->sumW A v k=(g*winS A F k*c.1,g*winS A F k*c.2)
 |0,_=>by simp[sumW,winS]
 |k+1,h=>by
  rw[sumW,jgU k (fun i hi=>h i (by omega)),h k (by omega),winS];refine Prod.ext ?_ ?_<;>grind
theorem jmi{A:List Int}{v:Nat->Int×Int}{F:Nat->Int}{g:Int}{c:Int×Int}{m:Nat}:∀k,(∀i,i<k->v (m+i)=(g*F (m+i)*c.1,g*F (m+i)*c.2))->sumW A v (m+k)=((sumW A v m).1+g*(winS A F (m+k)-winS A F m)*c.1,(sumW A v m).2+g*(winS A F (m+k)-winS A F m)*c.2)
 |0,_=>by simp
 |k+1,h=>by
  rw[<-Nat.add_assoc,sumW,jmi k (fun i hi=>h i (by omega)),h k (by omega),winS];refine Prod.ext ?_ ?_<;>grind
theorem js4:(List.range 64).all (fun k=>(List.range 64).all fun j=>decide (-16384<=(carr k).1*(carr j).1+(carr k).2*(carr j).2/\(carr k).1*(carr j).1+(carr k).2*(carr j).2<=16384))=true:=by decide+kernel
theorem jhB(ha:U32 a)(hb:U32 b): -16384<=(carP a).1*(carP b).1+(carP a).2*(carP b).2/\(carP a).1*(carP b).1+(carP a).2*(carP b).2<=16384:=by
 unfold U32 at ha hb;have h:=List.all_eq_true.1 js4 (a/67108864).toNat (by simp;omega);have h2:=List.all_eq_true.1 h (b/67108864).toNat (by simp;omega);exact of_decide_eq_true h2
theorem jrB{a b x1 x2 y1 y2:Int}(h0:x1*x1+x2*x2<=16384)(h1:y1*y1+y2*y2<=16384)(hd: -16384<=x1*y1+x2*y2/\x1*y1+x2*y2<=16384):
  (a*x1+b*y1)*(a*x1+b*y1)+(a*x2+b*y2)*(a*x2+b*y2)<=16384*((absI a+absI b)*(absI a+absI b)):=by
 have e:(a*x1+b*y1)*(a*x1+b*y1)+(a*x2+b*y2)*(a*x2+b*y2)=(a*a)*(x1*x1+x2*x2)+(b*b)*(y1*y1+y2*y2)+2*((a*b)*(x1*y1+x2*y2)):=by grind
 rw[e];generalize x1*x1+x2*x2=n0 at*;generalize y1*y1+y2*y2=n1 at*;generalize x1*y1+x2*y2=d at*;have sq:∀x:Int,x*x=absI x*absI x:=fun x=>by unfold absI;rcases Int.le_total 0 x with c|c<;>simp[Int.max_def]<;>split<;>grind
 have p0:0<=a*a:=by rw[sq];exact Int.mul_nonneg (jaN _) (jaN _)
 have p1:0<=b*b:=by rw[sq];exact Int.mul_nonneg (jaN _) (jaN _)
 have q0:a*a*n0<=a*a*16384:=Int.mul_le_mul_of_nonneg_left h0 p0;have q1:b*b*n1<=b*b*16384:=Int.mul_le_mul_of_nonneg_left h1 p1;have q2:a*b*d<=absI (a*b)*16384:=by
  have h:absI (a*b*d)<=absI (a*b)*16384:=by
   rw[jei];exact Int.mul_le_mul_of_nonneg_left (by unfold absI;omega) (jaN _)
  unfold absI at h|-;omega
 rw[jei]at q2;have f:16384*((absI a+absI b)*(absI a+absI b))=absI a*absI a*16384+absI b*absI b*16384+2*(absI a*absI b*16384):=by grind
 rw[f,<-sq,<-sq];omega
theorem jkS{x g:Int}(hg:g=1\/g= -1)(ha:0<=a):absI (a*g*x)=a*absI x:=by
 rw[jei];congr 1;unfold absI;rcases hg with rfl|rfl<;>omega
theorem jtt{e:EmitP}(ok:EmOk p e)(k:Int):1-2*bitI p e k=1\/1-2*bitI p e k= -1:=by
 rcases ok.bit k with h|h<;>rw[h]<;>simp
theorem jfC{x y:Int}(h0:0<=x)(h:x<=y):x*x<=y*y:=Int.mul_le_mul h h h0 (by omega)
theorem jjK{p:PlanP}{e:EmitP}(ok:EmOk p e){A:List Int}(hA:(A.length:Int)=p.size)(n:Int)(mg:Nat)
  (ho:mg=0\/(1<=mg/\(mg:Int)<=n-e.sta p (e.pl p n)/\(mg:Int)<=e.sta p (e.pl p n+1)-n)):
  (sumW A (fun i=>atV p e (n+(i:Nat))) A.length).1*(sumW A (fun i=>atV p e (n+(i:Nat))) A.length).1+(sumW A (fun i=>atV p e (n+(i:Nat))) A.length).2*(sumW A (fun i=>atV p e (n+(i:Nat))) A.length).2<=
   16384*((e.amp*greatI A (sampL p.d e.prn p.o.toNat) mg)*(e.amp*greatI A (sampL p.d e.prn p.o.toNat) mg)):=by
 have sz:=jal ok.pn;have hB:((sampL p.d e.prn p.o.toNat).length:Int)=p.size:=by rw[jaF,sz.2.2]
 have am:0<=e.amp:=by
  have:=ok.en.2.2.1;have:=ok.pn.2.2.2.2.1;omega
 have per:=ok.per n;have pl:=pl_lt (dl:=e.dl) (n:=n) ok.den;have pl:n<e.sta p (e.pl p n+1):=pl;have st1:=jkB (dl:=e.dl) (sz:=p.size) (k:=e.pl p n) ok.en.2.1;have st2:=jkB (dl:=e.dl) (sz:=p.size) (k:=e.pl p n+1) ok.en.2.1;have st1:p.size-1<=e.sta p (e.pl p n+1)-e.sta p (e.pl p n)/\e.sta p (e.pl p n+1)-e.sta p (e.pl p n)<=p.size+1:=st1;have st2:p.size-1<=e.sta p (e.pl p n+1+1)-e.sta p (e.pl p n+1):=st2.1;have a0:=fun(i:Nat) (hi:n+(i:Int)<e.sta p (e.pl p n+1))=>at_in ok (x:=n+(i:Int)) (K:=e.pl p n) (by omega) hi
 have a1:=fun(i:Nat) (h1:e.sta p (e.pl p n+1)<=n+(i:Int)) (h2:n+(i:Int)<e.sta p (e.pl p n+1+1))=>at_in ok (x:=n+(i:Int)) (K:=e.pl p n+1) h1 h2;have g0:=jtt ok (e.pl p n);have g1:=jtt ok (e.pl p n+1);have u0:=jeb e.ph e.st (e.pl p n);have u1:=jeb e.ph e.st (e.pl p n+1);have d0b:=jhB u0 u0;have d0:=(jhB u0 u0).2;have d1:=(jhB u1 u1).2;have dd:=jhB u0 u1;generalize carP (phI e.ph e.st (e.pl p n))=c0 at*;generalize carP (phI e.ph e.st (e.pl p n+1))=c1 at*;generalize 1-2*bitI p e (e.pl p n)=s0 at*;generalize 1-2*bitI p e (e.pl p n+1)=s1 at*
 generalize e.sta p (e.pl p n+1+1)=S2 at*;generalize e.sta p (e.pl p n+1)=S1 at*;generalize e.sta p (e.pl p n)=S0 at*;generalize sampL p.d e.prn p.o.toNat=B at*;generalize e.amp=am0 at*;obtain⟨m,hm⟩:=Int.eq_ofNat_of_zero_le (show 0<=S1-n by omega);rcases Nat.lt_or_ge A.length m with c|c
 ·-- the window lies in one period
  have mz:mg=0:=by omega
  subst mz;have f1:=jgU (A:=A) (v:=fun i=>atV p e (n+(i:Nat))) (F:=fun i=>B.getD (min (n+(i:Nat)-S0) (p.size-1)).toNat 0) (g:=am0*s0) (c:=c0) A.length (fun i hi=>a0 i (by omega));have w1:=jiP (a:=A) (b:=B) (f:=fun i=>B.getD (min (n+(i:Nat)-S0) (p.size-1)).toNat 0) (m:=A.length) (s:=0) (g:=1) A.length (Nat.le_refl _) (fun i hi=>by
   rw[Int.one_mul];show B.getD _ 0=_;congr 2;omega)
  rw[f1,w1,Int.one_mul];have p1:=jmh (a:=A) (b:=B) (s:=0) (mg:=0) (m:=A.length) (by omega) (by omega) (by unfold cntM lastM;simp);have p2:absI (pf A B A.length 0 A.length)<=plc A B 0 A.length:=by
   unfold plc absI;generalize ps A B A.length (A.length-A.length)=y;omega
  generalize pf A B A.length 0 A.length=X at*;generalize greatI A B 0=G at*;have nl:=jrB (a:=am0*s0*X) (b:=0) d0 d0 d0b;have ab:=jkS (x:=X) g0 am;have z0:absI 0=0:=rfl;rw[ab,z0]at nl;have mm:am0*absI X<=am0*G:=Int.mul_le_mul_of_nonneg_left (by omega) am;have sq:=jfC (x:=am0*absI X+0) (y:=am0*G) (by have:=Int.mul_nonneg am (jaN X);omega) (by omega);simp only[Int.zero_mul,Int.add_zero]at nl sq;dsimp only;omega
 ·obtain⟨k,hk⟩:∃k,A.length=m+k:=⟨A.length-m,by omega⟩;have hs: -1<=S1-S0-p.size/\S1-S0-p.size<=1:=by omega
  obtain⟨F,hF⟩:∃F:Nat->Int,F=fun i=>if i<m then B.getD (min (n+(i:Nat)-S0) (p.size-1)).toNat 0 else B.getD (i-m) 0:=⟨_,rfl⟩
  have F1:∀i,i<m->F i=B.getD (min (n+(i:Nat)-S0) (p.size-1)).toNat 0:=fun i hi=>by rw[hF];exact if_pos hi
  have F2:∀i,F (m+i)=B.getD i 0:=fun i=>by
   rw[hF];show(if m+i<m then _ else B.getD (m+i-m) 0)=_;rw[if_neg (by omega),show m+i-m=i by omega]
  have f1:=jgU (A:=A) (v:=fun i=>atV p e (n+(i:Nat))) (F:=F) (g:=am0*s0) (c:=c0) m (fun i hi=>by rw[F1 i hi];exact a0 i (by omega));have f2:=jmi (A:=A) (v:=fun i=>atV p e (n+(i:Nat))) (F:=F) (g:=am0*s1) (c:=c1) (m:=m) k (fun i hi=>by
   have q:=a1 (m+i) (by omega) (by omega);rw[F2 i];rw[show(min (n+((m+i:Nat):Int)-S1) (p.size-1)).toNat=i by omega]at q;exact q)
  have w1:=jiP (a:=A) (b:=B) (f:=F) (m:=m) (s:=S1-S0-p.size) (g:=1) m (Nat.le_refl _) (fun i hi=>by
   rw[Int.one_mul,F1 i hi];congr 2;omega)
  have w2:=jom (a:=A) (b:=B) (f:=F) (m:=m) (g:=1) k (fun i hi=>by rw[Int.one_mul,F2 i]);rw[Int.one_mul]at w1 w2;rw[<-hk]at f2 w2;rw[f2,f1,w2,w1];have p1:=jmh (a:=A) (b:=B) (s:=S1-S0-p.size) (mg:=mg) (m:=m) hs (by omega) (by
   unfold cntM lastM;split
   ·omega
   ·omega)
  have p2:absI (pf A B m (S1-S0-p.size) m)+absI (ps A B m k)<=plc A B (S1-S0-p.size) m:=by
   unfold plc absI;rw[show A.length-m=k by omega];omega
  generalize pf A B m (S1-S0-p.size) m=X at*;generalize ps A B m k=Y at*;generalize greatI A B mg=G at*;have nl:=jrB (a:=am0*s0*X) (b:=am0*s1*Y) d0 d1 dd;have ab:=jkS (x:=X) g0 am;have ab2:=jkS (x:=Y) g1 am;rw[ab,ab2,<-Int.mul_add]at nl;have mm:am0*(absI X+absI Y)<=am0*G:=Int.mul_le_mul_of_nonneg_left (by omega) am;have sq:=jfC (Int.mul_nonneg am (by have:=jaN X;have:=jaN Y;omega)) mm;dsimp only;rw[show X+Y-X=Y by omega];omega
end Go.Ae
