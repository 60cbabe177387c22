/- Texts of the proof, part 18: a second reading of the lowered code, proved sound, and what the functions compute. -/
import Derived.Test.YtkbkpjinekcnhaaGreatG17
set_option linter.unusedSimpArgs false
set_option linter.unusedVariables false
set_option maxRecDepth 20000
set_option maxHeartbeats 4000000
namespace Go.Ae
variable {C : Ctx} {h h' : Heap} {v vp : AV} {p : PlanP} {w w' : World} {env : Env} {kp : Keep} {ops : Array Oper} {i n m j sz u : Nat} {l : List Int} {s : List (Int × Int)} {prn d b f a : Int} {cs vs : List AV} {nid : Option Nat} {P : Program}
open Go.Conc
section
variable {C : Ctx} {extra : Keep} {nt : Nat} {E : Ent}
theorem joA{ops:Array Oper}{o:Oper}{dst:Option Nat}{x:AOpd}(h:jao C.P C.inv nt ops o={dst:=dst,op:=.comm 1 [x],guard:=none}):
  ∃t ch d e z,o.op=.recv t ch false/\C.P.underlying t=some (.chan d e)/\zeroT C.P e=some z/\lowerOpd C.inv ch=some x/\o.dst=dst/\dstOk nt o.dst=true/\o.guard=none:=by
 unfold jao at h;split at h
 ·rename_i aop g h1 h2 h3;simp only[AOper.mk.injEq]at h;obtain⟨hd,rfl,rfl⟩:=h;have hg:o.guard=none:=by
   cases hg:o.guard with
   |none=>rfl
   |some jw=>
    obtain⟨j,want⟩:=jw;rw[hg]at h3;simp only[jbM]at h3;split at h3<;>cases h3
  cases hop:o.op with
  |recv t ch comma=>
   rw[hop]at h1;simp only[lowerOp]at h1;split at h1
   ·rename_i d e x' ht hx;simp only[Option.map_eq_some_iff]at h1;obtain⟨z,hz,he⟩:=h1;cases he;exact⟨t,ch,d,e,z,rfl,ht,hz,hx,hd,h2,hg⟩
   ·cases h1
  | call c =>
   exfalso;rw[hop]at h1;have h1':ja9 C.P C.inv c=some (.comm 1 [x]):=h1;unfold ja9 at h1';split at h1'
   ·split at h1'
    ·simp only[Option.map_eq_some_iff]at h1';obtain⟨_,_,h1'⟩:=h1';cases h1'
    ·unfold ja4 at h1'
     repeat' split at h1'
     all_goals first
      |(cases h1';done)
      |(simp only[Option.map_eq_some_iff]at h1';obtain⟨_,_,h1'⟩:=h1';cases h1';done)
    ·cases h1'
   ·cases h1'
  |makeFunc fn x y=>
   exfalso;rw[hop]at h1;cases fn<;>simp only[lowerOp]at h1;all_goals first|(cases h1;done)|((repeat' split at h1)<;>cases h1;done)
  |makeMap _ r=>exfalso;rw[hop]at h1;cases r<;>simp only[lowerOp,lowerMap]at h1<;>(repeat' split at h1)<;>cases h1
  |mapUpdate _ _ _ _=>exfalso;rw[hop]at h1;simp only[lowerOp,lowerMap]at h1;(repeat' split at h1)<;>first|(cases h1;done)|(simp only[Option.map_eq_some_iff]at h1;obtain⟨_,_,h1⟩:=h1;cases h1;done)
  |insert _ _ _ _=>exfalso;rw[hop]at h1;simp only[lowerOp,lowerMap]at h1;(repeat' split at h1)<;>first|(cases h1;done)|(simp only[Option.map_eq_some_iff]at h1;obtain⟨_,_,h1⟩:=h1;cases h1;done)
  |lookup _ _ _ _=>exfalso;rw[hop]at h1;simp only[lowerOp,lowerMap]at h1;(repeat' split at h1)<;>first|(cases h1;done)|(simp only[Option.map_eq_some_iff]at h1;obtain⟨_,_,h1⟩:=h1;cases h1;done)
  | _ =>
   exfalso;rw[hop]at h1
   first
    |(simp only[lowerOp]at h1;(repeat' split at h1)<;>first|(cases h1;done)|(simp only[Option.map_eq_some_iff]at h1;obtain⟨_,_,h1⟩:=h1;cases h1;done))
    |(unfold lowerOp at h1;simp only[jbE,jaJ]at h1;(repeat' split at h1)<;>first|(cases h1;done)|(simp only[Option.map_eq_some_iff]at h1;obtain⟨_,_,h1⟩:=h1;cases h1;done))
 ·cases h
theorem Rel.less{keep keep':Keep}{env:Env}{h:Heap}{w w':World}(R:Rel C keep env h w)(hno:∀r,keep'.no r->keep.no r)(hhide:∀r,keep'.hide r->keep.hide r)(hsz:w'.heap.size=w.heap.size)
  (hrow:∀r,r<w.heap.size->¬keep.hide r->w'.heap[r]? =w.heap[r]?):Rel C keep' env h w':=by
 refine⟨fun i b hi=>by rw[hsz];exact R.lt i b hi,fun i b hi=>?_,R.disj,R.bel,fun i b hi hw x=>R.kept i b hi hw (hno _ x),fun r x=>by rw[hsz];exact R.keepLt r (hno r x),fun i b hi hd x=>R.hid i b hi hd (hhide _ x),fun r x=>by rw[hsz];exact R.hidLt r (hhide r x)⟩;by_cases hd:b=.dead
 ·subst hd;trivial
 ·exact(R.blk i b hi).mono (kam h env) (R.bel i b hi) (hrow _ (R.lt i b hi) (R.hid i b hi hd))
theorem Rel.view{keep:Keep}{env:Env}{h:Heap}{w:World}(R:Rel C keep env h w)(e:EB){vs:List AV}(hlt:e.blk<w.heap.size)(hh:¬keep.hide e.blk)(hw:∀i b,h.get i=some b->b.wr=true->(env i).blk≠e.blk)
  (hv:∀v∈vs,v.bel fun _=>False) (hc:∀k v,vs[k]? =some v->w.cell? ⟨e.blk,e.sh+k,none⟩=some (v.val C.lk (fun _=>e))):Rel C keep (updE env h.size e) (h.push (.cells vs false 0)) w:=by
 have X:Ext h env (updE env h.size e):=jbW (h.wf _ (Nat.le_refl _)) env e;have hself:updE env h.size e h.size=e:=by simp[updE]
 have hold:∀i b,h.get i=some b->updE env h.size e i=env i:=fun i b hb=>X i (by simp[Heap.ok,hb]);refine⟨fun i b hi=>?_,fun i b hi=>?_,fun i j b c hi hj hij hwr hcd=>?_,fun i b hi=>?_,fun i b hi hwr x=>?_,R.keepLt,fun i b hi hd x=>?_,R.hidLt⟩;all_goals rw[kao]at hi
 ·by_cases ei:i=h.size
  ·rw[ei,hself];exact hlt
  ·rw[if_neg ei]at hi;rw[hold i b hi];exact R.lt i b hi
 ·by_cases ei:i=h.size
  ·rw[if_pos ei]at hi;cases hi;rw[ei,hself];intro k v hk;rw[hc k v hk];congr 1;exact jei (fun _ h=>h.elim) v (hv v (List.mem_of_getElem? hk))
  ·rw[if_neg ei]at hi;rw[hold i b hi];exact(R.blk i b hi).mono X (R.bel i b hi) rfl
 ·rw[kao]at hj;by_cases ei:i=h.size
  ·rw[if_pos ei]at hi;cases hi;cases hwr
  ·rw[if_neg ei]at hi;rw[hold i b hi];by_cases ej:j=h.size
   ·rw[ej,hself];exact fun x=>hw i b hi hwr x.symm
   ·rw[if_neg ej]at hj;rw[hold j c hj];exact R.disj i j b c hi hj hij hwr hcd
 ·by_cases ei:i=h.size
  ·rw[if_pos ei]at hi;cases hi;exact fun v hvm=>bel_mono (fun _ h=>h.elim) v (hv v hvm)
  ·rw[if_neg ei]at hi;exact kap (fun j hj=>jf0.2 (.inr hj)) (R.bel i b hi)
 ·by_cases ei:i=h.size
  ·rw[if_pos ei]at hi;cases hi;cases hwr
  ·rw[if_neg ei]at hi;rw[hold i b hi]at x;exact R.kept i b hi hwr x
 ·by_cases ei:i=h.size
  ·rw[ei,hself]at x;exact hh x
  ·rw[if_neg ei]at hi;rw[hold i b hi]at x;exact R.hid i b hi hd x
theorem Rel.land{keep:Keep}{env:Env}{h:Heap}{w:World}(R:Rel C keep env h w){p:AProm}(hp:p.Ok){B:Nat}{T:Nat->Prop}{v:Value}{w0:World}(hΦ:p.prom C.lk B v w0 T)
  (hT:∀r,T r->r<w.heap.size/\¬keep.hide r/\(∀i b,h.get i=some b->b.wr=true->(env i).blk≠r)/\w.heap[r]? =w0.heap[r]?):
  ∃env',Rel C keep env' (p.land h) w/\Ext h env env'/\HLe h (p.land h)/\v=(p.av h.size).val C.lk env'/\(p.av h.size).bel (p.land h).ok:=by
 obtain⟨e,rfl,hΦ⟩:=hΦ;unfold AProm.land;cases hb:p.blk with
 |none=>
  refine⟨env,R,kam _ _,kax _,?_,hp.bel _ _ fun x=>absurd hb x⟩;rw[hp.shift C.lk h.size env];exact jei (fun _ h=>h.elim) _ (hp.bel 0 (fun _=>False) fun x=>absurd hb x)
 |some vs=>
  rw[hb]at hΦ;obtain⟨h1,h2,h3,h4⟩:=hΦ;obtain⟨t1,t2,t3,t4⟩:=hT e.blk ((h3 _).2 rfl);refine⟨updE env h.size e,R.view e t1 t2 t3 (hp.cells vs hb) (fun k v hk=>?_),jbW (h.wf _ (Nat.le_refl _)) env e,jjj (n:=none) rfl rfl _,?_,hp.bel _ _ fun _=>jf0.2 (.inl rfl)⟩
  ·rw[<-h4 k v hk];exact World.cell?_of_block (w:=w0) (w':=w) (a:=⟨e.blk,e.sh+k,none⟩) t4
  ·rw[hp.shift _ h.size];simp[updE]
theorem jcv{hs:Heap}{ic:Nat}{b:ABlk}(h1:(hs.thaw ic h).get i=some b):i<h.size/\((i<hs.size/\((i=ic/\b=.dead)\/(i≠ic/\hs.get i=some b)))\/(hs.size<=i/\∃b',h.get i=some b'/\b=if b'.wr then b' else .dead)):=by
 unfold Heap.thaw at h1;dsimp only at h1;split at h1
 ·rename_i hlt;refine⟨hlt,?_⟩;split at h1
  ·rename_i h2;split at h1
   ·rename_i e;cases h1;exact .inl ⟨h2,.inl ⟨e,rfl⟩⟩
   ·rename_i e;exact .inl ⟨h2,.inr ⟨e,h1⟩⟩
  ·rename_i h2;simp only[Option.map_eq_some_iff]at h1;obtain⟨b',hb',e⟩:=h1;exact .inr ⟨by omega,b',hb',e.symm⟩
 ·cases h1
theorem Busy.thaw{ic:Nat}{aps:List AProm}{hs:Heap}{c:Nat}{ps:List Prom}{kps:Keep}{envs:Env}{ws:World}{kp:Keep}{env:Env}{st:St}{a:Act}{w W:World}(B:Busy C extra nt E ic aps hs c ps kps envs ws kp env st a w)
  {T:Nat->Prop} (hT:∀r,T r->ws.heap.size<=r) (hsz:W.heap.size=w.heap.size) (hos:W.os=w.os) (htp:W.tape=w.tape) (hout:W.output=w.output) (hrow:∀r,r≠c->W.heap[r]? =w.heap[r]?):
  Snap C extra E ⟨kps.no,fun r=>kp.hide r/\¬T r⟩ env (hs.thaw ic st.h) W/\HLe st.h (hs.thaw ic st.h)/\∀i b,(hs.thaw ic st.h).get i=some b->b.wr=true->¬kp.hide (env i).blk:=by
 have R0:=B.snap.rel;have R1:=B.sim.rel;have hss:=B.size;have envO:∀{i b},hs.get i=some b->env i=envs i:=fun{i b} hb=>B.ext i (by simp[Heap.ok,hb])
 -- of an old block that is live
 have old:∀{i b},i≠ic->hs.get i=some b->b≠.dead->(env i).blk<ws.heap.size/\¬kps.hide (env i).blk/\(env i).blk≠c:=by
  intro i b hne hb hd;rw[envO hb];refine⟨R0.lt i b hb,fun x=>R0.hid i b hb hd (.inl x),?_⟩;rw[B.hc];exact R0.disj ic i _ b B.chan hb (Ne.symm hne) rfl hd
 have oldH:∀{i b},i≠ic->hs.get i=some b->b≠.dead->¬kp.hide (env i).blk:=by
  intro i b hne hb hd x;obtain⟨o1,o2,o3⟩:=old hne hb hd;rcases B.hide' _ x with y|y|y
  ·exact o2 y
  ·exact o3 y
  ·omega
 have oldW:∀{i b},i≠ic->hs.get i=some b->b≠.dead->W.heap[(env i).blk]? =ws.heap[(env i).blk]? :=by
  intro i b hne hb hd;obtain⟨o1,o2,o3⟩:=old hne hb hd;rw[hrow _ o3,B.rows _ o1 o2 o3]
 -- of a new one that may be written
 have new:∀{i b},hs.size<=i->st.h.get i=some b->b.wr=true->ws.heap.size<=(env i).blk/\¬kp.hide (env i).blk/\(env i).blk≠c/\b≠.dead:=by
  intro i b hi hb hw;have hd:b≠.dead:=by rintro rfl;cases hw
  have hh:¬kp.hide (env i).blk:=fun x=>R1.hid i b hb hd (.inl x);refine⟨?_,hh,fun e=>hh (by rw[e];exact B.hidec),hd⟩;rcases Nat.lt_or_ge (env i).blk ws.heap.size with x|x
  ·exact absurd (.inr (.inr x)) (R1.kept i b hb hw)
  ·exact x
 have okT:∀i,st.h.ok i->(hs.thaw ic st.h).ok i:=by
  intro i hi;have hlt:=kaA hi;simp only[Heap.ok,Heap.thaw,if_pos hlt];by_cases h2:i<hs.size
  ·rw[if_pos h2];by_cases e:i=ic
   ·rw[if_pos e];rfl
   ·rw[if_neg e,<-B.hle.same i h2];exact hi
  ·rw[if_neg h2];simp only[Heap.ok]at hi;simpa using hi
 have hleT:HLe st.h (hs.thaw ic st.h):=by
  refine⟨Nat.le_refl _,fun i hi=>?_⟩;cases hg:st.h.get i with
  |some b=>have:=okT i (by simp[Heap.ok,hg]);simpa[Heap.ok]using this
  | none =>
   show((hs.thaw ic st.h).get i).isSome=false;cases ht:(hs.thaw ic st.h).get i with
   |none=>rfl
   | some b =>
    exfalso;obtain⟨_,⟨h2,h3⟩|⟨_,b',hb',_⟩⟩:=jcv ht
    ·have hsame:=B.hle.same i h2;rw[hg]at hsame;rcases h3 with⟨rfl,_⟩|⟨_,h3⟩
     ·rw[B.chan]at hsame;cases hsame
     ·rw[h3]at hsame;cases hsame
    ·rw[hg]at hb';cases hb'
 have okS:∀i,hs.ok i->(hs.thaw ic st.h).ok i:=fun i hi=>okT i (B.hle.ok hi);have hR:Rel C (Keep.or ⟨kps.no,fun r=>kp.hide r/\¬T r⟩ extra) env (hs.thaw ic st.h) W:=by
  refine⟨fun i b hi=>?_,fun i b hi=>?_,fun i j b d hi hj hij hw hd=>?_,fun i b hi=>?_,fun i b hi hw x=>?_,fun r x=>?_,fun i b hi hd x=>?_,fun r x=>?_⟩
  ·rw[hsz];obtain⟨_,⟨h2,h3⟩|⟨_,b',hb',_⟩⟩:=jcv hi
   ·rcases h3 with⟨rfl,_⟩|⟨_,h3⟩
    ·rw[envO B.chan];exact Nat.lt_of_lt_of_le (R0.lt _ _ B.chan) hss
    ·rw[envO h3];exact Nat.lt_of_lt_of_le (R0.lt _ _ h3) hss
   ·exact R1.lt i b' hb'
  ·obtain⟨_,⟨h2,h3⟩|⟨hi2,b',hb',e⟩⟩:=jcv hi
   ·rcases h3 with⟨_,rfl⟩|⟨hne,h3⟩
    ·trivial
    ·by_cases hd:b=.dead
     ·subst hd;trivial
     ·have:=oldW hne h3 hd;rw[envO h3]at this|-;exact(R0.blk i b h3).mono B.ext (R0.bel i b h3) this
   ·by_cases hw:b'.wr=true
    ·rw[if_pos hw]at e;subst e;obtain⟨n1,n2,n3,n4⟩:=new hi2 hb' hw;exact(R1.blk i b hb').mono (kam _ _) (R1.bel i b hb') (hrow _ n3)
    ·rw[if_neg hw]at e;subst e;trivial
  ·obtain⟨_,⟨h2,h3⟩|⟨hi2,b',hb',e⟩⟩:=jcv hi
   ·rcases h3 with⟨_,rfl⟩|⟨hne,h3⟩
    ·cases hw
    ·have hbd:b≠.dead:=by rintro rfl;cases hw
     obtain⟨o1,_,_⟩:=old hne h3 hbd;obtain⟨_,⟨k2,k3⟩|⟨hj2,d',hd',e2⟩⟩:=jcv hj
     ·rcases k3 with⟨_,rfl⟩|⟨hnj,k3⟩
      ·exact absurd rfl hd
      ·rw[envO h3,envO k3];exact R0.disj i j b d h3 k3 hij hw hd
     ·by_cases hw2:d'.wr=true
      ·have:=(new hj2 hd' hw2).1;omega
      ·rw[if_neg hw2]at e2;exact absurd e2 hd
   ·by_cases hw1:b'.wr=true
    ·rw[if_pos hw1]at e;subst e;have n1:=(new hi2 hb' hw1).1;obtain⟨_,⟨k2,k3⟩|⟨hj2,d',hd',e2⟩⟩:=jcv hj
     ·rcases k3 with⟨_,rfl⟩|⟨hnj,k3⟩
      ·exact absurd rfl hd
      ·have:=(old hnj k3 hd).1;omega
     ·by_cases hw2:d'.wr=true
      ·rw[if_pos hw2]at e2;subst e2;exact R1.disj i j b d hb' hd' hij hw hd
      ·rw[if_neg hw2]at e2;exact absurd e2 hd
    ·rw[if_neg hw1]at e;subst e;cases hw
  ·obtain⟨_,⟨h2,h3⟩|⟨hi2,b',hb',e⟩⟩:=jcv hi
   ·rcases h3 with⟨_,rfl⟩|⟨hne,h3⟩
    ·trivial
    ·exact kap okS (R0.bel i b h3)
   ·by_cases hw:b'.wr=true
    ·rw[if_pos hw]at e;subst e;exact kap okT (R1.bel i b hb')
    ·rw[if_neg hw]at e;subst e;trivial
  ·obtain⟨_,⟨h2,h3⟩|⟨hi2,b',hb',e⟩⟩:=jcv hi
   ·rcases h3 with⟨_,rfl⟩|⟨hne,h3⟩
    ·cases hw
    ·have hbd:b≠.dead:=by rintro rfl;cases hw
     rw[envO h3]at x;exact R0.kept i b h3 hw x
   ·by_cases hw1:b'.wr=true
    ·rw[if_pos hw1]at e;subst e;obtain⟨n1,n2,_,_⟩:=new hi2 hb' hw1;have:=R0.keepLt _ x;omega
    ·rw[if_neg hw1]at e;subst e;cases hw
  ·rw[hsz];exact Nat.lt_of_lt_of_le (R0.keepLt r x) hss
  ·obtain⟨_,⟨h2,h3⟩|⟨hi2,b',hb',e⟩⟩:=jcv hi
   ·rcases h3 with⟨_,rfl⟩|⟨hne,h3⟩
    ·exact hd rfl
    ·rcases x with x|x
     ·exact oldH hne h3 hd x.1
     ·rw[envO h3]at x;exact R0.hid i b h3 hd (.inr x)
   ·by_cases hw1:b'.wr=true
    ·rw[if_pos hw1]at e;subst e;rcases x with x|x
     ·exact R1.hid i b hb' hd (.inl x.1)
     ·exact R1.hid i b hb' hd (.inr x)
    ·rw[if_neg hw1]at e;exact hd e
  ·rw[hsz];rcases x with x|x
   ·exact R1.hidLt r (.inl x.1)
   ·exact Nat.lt_of_lt_of_le (R0.hidLt r (.inr x)) hss
 have hse:=B.snap.since;have hcw:E.w.heap.size<=ws.heap.size:=hse.size;refine⟨⟨hR,⟨?_,?_,?_,?_,fun r hr he hn=>?_,fun r x=>?_,fun r he x=>?_⟩,B.snap.ext.trans B.snap.hle B.ext,(B.snap.hle.trans B.hle).trans hleT,B.snap.no,B.snap.no'⟩,hleT,fun i b hi hw x=>?_⟩
 ·rw[hsz];omega
 ·rw[hos,B.os,hse.os]
 ·rw[htp,B.tape,hse.tape]
 ·rw[hout,B.output,hse.output]
 ·have hnk:¬kps.hide r:=fun x=>(hse.hide' r he x).elim hn fun y=>by omega
  have hrc:r≠c:=fun e=>R0.kept ic _ B.chan rfl (.inr (by rw[<-B.hc,<-e];exact he));rw[hrow r hrc,B.rows r (by omega) hnk hrc,hse.block r hr he hn]
 ·have y:=hse.hide r x;refine⟨B.hide r y,fun t=>?_⟩;have:=hT r t;have:=R0.hidLt r (.inl y);omega
 ·rcases B.hide' r x.1 with y|y|y
  ·exact hse.hide' r he y
  ·exact absurd (.inr (by rw[<-B.hc,<-y];exact he)) (R0.kept ic _ B.chan rfl)
  ·exact .inr (by omega)
 ·obtain⟨_,⟨h2,h3⟩|⟨hi2,b',hb',e⟩⟩:=jcv hi
  ·rcases h3 with⟨_,rfl⟩|⟨hne,h3⟩
   ·cases hw
   ·exact oldH hne h3 (by rintro rfl;cases hw) x
  ·by_cases hw1:b'.wr=true
   ·exact(new hi2 hb' hw1).2.1 x
   ·rw[if_neg hw1]at e;subst e;cases hw
end
end Go.Ae
namespace Go.Ae
variable {C : Ctx} {h h' : Heap} {v vp : AV} {p : PlanP} {w w' : World} {env : Env} {kp : Keep} {ops : Array Oper} {i n m j sz u : Nat} {l : List Int} {s : List (Int × Int)} {prn d b f a : Int} {cs vs : List AV} {nid : Option Nat} {P : Program}
open Go.Conc
section
variable {C : Ctx} {extra : Keep} {nt : Nat} {E : Ent}
def jnr(g:Gh)(ch:AV)(dst:Option Nat)(K:Gh->St->Prop)(st:St):Prop:=
 match g with
 |.idle=>False
 | .busy ic aps hs => ch = .chan ic /\ ∀ A p B, aps = A ++ p :: B ->
   (A++B≠[]->K (.busy ic (A++B) hs) (St.put {st with h:=p.land st.h} dst (p.av st.h.size)))/\
   (A++B=[]->K .idle (St.put {st with h:=p.land (hs.thaw ic st.h)} dst (p.av st.h.size)))
theorem jly{α β:Type}{f:α->β}{l:List α}{A B:List β}{x:β}(h:l.map f=A++x::B):∃A' y B',l=A'++y::B'/\A'.map f=A/\f y=x/\B'.map f=B:=by
 obtain⟨l1,l2,rfl,h1,h2⟩:=List.map_eq_append_iff.1 h;obtain⟨y,B',rfl,h3,h4⟩:=List.map_eq_cons_iff.1 h2;exact⟨l1,y,B',rfl,h1,h3,h4⟩
theorem jjd{b:Frame}{a:Act}{ops:Array Oper}{i:Nat}{rest:List Nat}{k:List Item}{cs:List Frame}{o:Oper}{v:Value}(ho:ops[i]? =some o):
  Conc.served (G (b.atR a (.inRegion ops (i::rest)::k)) cs) v=G (b.atR (a.put o.dst v) (.inRegion ops rest::k)) cs:=by
 have:(b.atR a (.inRegion ops (i::rest)::k)).finish v=b.atR (a.put o.dst v) (.inRegion ops rest::k):=by rw[Frame.finish_atR,ho];rfl
 simp only[Conc.served,G,this]
theorem jsK{g:Gh}{ops:Array Oper}{i:Nat}{o:Oper}{ph:Phase}{kp:Keep}{env:Env}{st:St}{a:Act}{w:World}{K:Gh->St->Prop}(S:GSim C extra nt E g ph kp env st a w)(ho:ops[i]? =some o){dst:Option Nat}{x:AOpd}
  (hl:jao C.P C.inv nt ops o={dst:=dst,op:=.comm 1 [x],guard:=none}) (h:jnr g (x.ev st.t) dst K st):
  OpM C.P ops i (fun ph' kp' a' w'=>∃g' env' st',GSim C extra nt E g' ph' kp' env' st' a' w'/\K g' st') ph kp a w:=by
 obtain⟨t,ch,d,e,z,hop,ht,hz,hx,rfl,hd,hg⟩:=joA hl;have hw:=jc8 hg (yielded ops a.tmps);cases g with
 |idle=>exact h.elim
 | busy ic aps hs =>
  obtain⟨hch,h⟩:=h;obtain⟨c0,ps,kps,envs,ws,rfl,B⟩:=S;have hcc:(env ic).blk=c0:=by rw[B.ext ic (by simp[Heap.ok,B.chan]),B.hc]
  have hev:a.eval ch=.chan (some c0):=by
   have:=(B.sim.opd ch x hx).1;rw[hch]at this;simp only[AV.val,hcc]at this;exact this
  have hzr:∀w1:World,(zeroValue e).run C.P w1=.ok (z.val C.lk env) w1:=fun w1=>(jkz (w:=w1) (env:=env) C.lk (fun _=>True) hz).1;have run:∀w1,(execOp a.eval o).run C.P w1=.ok (.comm #[rcase c0 (z.val C.lk env)] true (.recv false)) w1/\(execOp a.eval o).events C.P w1 #[]= #[]:=by
   intro w1;have hu:=run_underlying ht w1;constructor
   ·simp only[execOp,hop,Sem.run_bind,hu,Result.andThen_ok,hzr,hev,Sem.run_pure,rcase]
   ·simp only[execOp,hop,Sem.events_bind,hu,Result.evThen_ok,hzr,events_underlying,events_zeroValue,Sem.events_pure]
  intro Fin pr b rest k cs hro hb hk;have step:∀w1,stepG C.P true (G (b.atR a (.inRegion ops (i::rest)::k)) cs) w1=.comm (G (b.atR a (.inRegion ops (i::rest)::k)) cs) #[rcase c0 (z.val C.lk env)] true (.recv false) w1 #[]:=by
   intro w1;obtain⟨h1,h2⟩:=run w1;rw[jo6 ho hw (fun c' e=>by rw[hop]at e;cases e) hb h1];simp only[evs,h2,seen_none]
  have hne:ps≠[]:=by rw[B.hps];intro e;exact B.ne (List.map_eq_nil_iff.1 e)
  by_cases hp:pr
  ·exact .inr hp
  refine .inl (.recv (z.val C.lk env) rfl hne (fun kp1 w1 r=>step w1) fun A Φ B' v T kp1 w1 s r e r1 hΦ hT=>?_);rw[jjd ho];rw[B.hps]at e;obtain⟨A1,p,B1,rfl,hA,rfl,hB⟩:=jly e;have BB:=B.rely r1;have hpok:p.Ok:=B.ok p (by simp);obtain⟨hk1,hk2⟩:=h A1 p B1 rfl;have hrow:∀q,q≠c0->(w1.setChan c0 0 #[] false s r false).heap[q]? =w1.heap[q]? :=fun q hq=>by
   simp only[World.setChan];exact Array.getElem?_setIfInBounds_ne (Ne.symm hq)
  have hsz:(w1.setChan c0 0 #[] false s r false).heap.size=w1.heap.size:=by simp[World.setChan]
  have hTB:∀q,T q->ws.heap.size<=q:=by
   intro q hq;obtain⟨e0,_,hm⟩:=hΦ;cases hb':p.blk with
   |none=>rw[hb']at hm;exact absurd hq (hm q)
   |some vs=>rw[hb']at hm;rw[(hm.2.2.1 q).1 hq];exact hm.1
  by_cases hlast:A1++B1=[]
  ·-- the last one
   have hAB:A++B'=[]:=by rw[<-hA,<-hB];obtain⟨h1,h2⟩:=List.append_eq_nil_iff.1 hlast;rw[h1,h2];rfl
   obtain⟨hS,hL,hwrT⟩:=BB.thaw (W:=w1.setChan c0 0 #[] false s r false) hTB hsz rfl rfl rfl hrow;obtain⟨env',R',X',L',hv,hbel⟩:=hS.rel.land hpok hΦ fun q hq=>by
    obtain⟨t1,t2,t3⟩:=hT q hq;refine⟨by rw[hsz];exact t1,fun y=>?_,fun i b hi hwr e=>hwrT i b hi hwr (by rw[e];exact t2),hrow q t3⟩;rcases y with y|y
    ·exact y.2 hq
    ·have:=BB.snap.rel.hidLt q (.inr y);have:=hTB q hq;omega
   have s2:=BB.sim.put' hd (h':=p.land (hs.thaw ic st.h)) R' (fun j hj=>X' j (hL.ok hj)) (hL.trans L').grow hbel;rw[size_thaw]at hv hbel s2;rw[<-hv]at s2;have hS2:Snap C extra E _ env' (p.land (hs.thaw ic st.h)) _:=hS.keepJ (kaI _ _ _) R' X' L';have:=hk none ⟨kps.no,fun q=>kp1.hide q/\¬T q⟩ (a.put o.dst v) _ ⟨.idle,env',_,⟨rfl,by rw[put_h];exact hS2,s2⟩,hk2 hlast⟩;have j:=this.resolve_right hp;have j2:=j.idx c0 rfl;rw[hAB];have hke:(Keep.both ⟨kps.no,fun q=>kp1.hide q/\¬T q⟩)=kp1.take T (([]:List Prom)=[]):=kaU (fun q=>by simp[Keep.both,Keep.take]) (fun q=>by simp[Keep.both,Keep.take])
   rw[hke]at j2;exact j2
  ·have hAB:A++B'≠[]:=by
    rw[<-hA,<-hB];intro h0;obtain⟨h1,h2⟩:=List.append_eq_nil_iff.1 h0;exact hlast (by rw[List.map_eq_nil_iff.1 h1,List.map_eq_nil_iff.1 h2];rfl)
   have hno:∀q,(kp1.take T (A++B'=[])).no q↔kp1.no q/\¬T q:=fun q=>by simp[Keep.take,hAB]
   have hhi:∀q,(kp1.take T (A++B'=[])).hide q↔kp1.hide q/\¬T q:=fun q=>by simp[Keep.take]
   have R1:Rel C ((kp1.take T (A++B'=[])).or (extra.below ws.heap.size)) env st.h (w1.setChan c0 0 #[] false s r false):=
    BB.sim.rel.less (fun q y=>y.imp (fun y=>((hno q).1 y).1) id) (fun q y=>y.imp (fun y=>((hhi q).1 y).1) id) hsz fun q _ hn=>hrow q fun e=>hn (.inl (by rw[e];exact BB.hidec))
   obtain⟨env',R',X',L',hv,hbel⟩:=R1.land hpok hΦ fun q hq=>by
    obtain⟨t1,t2,t3⟩:=hT q hq;refine⟨by rw[hsz];exact t1,fun y=>?_,fun i b hi hwr e=>BB.sim.rel.hid i b hi (by rintro rfl;cases hwr) (.inl (by rw[e];exact t2)),hrow q t3⟩;rcases y with y|y
    ·exact((hhi q).1 y).2 hq
    ·have:=BB.snap.rel.hidLt q (.inr y);have:=hTB q hq;omega
   have s2:=BB.sim.put' hd (h':=p.land st.h) R' X' L'.grow hbel;rw[<-hv]at s2;have hg':GSim C extra nt E (.busy ic (A1++B1) hs) (some (c0,A++B')) (kp1.take T (A++B'=[])) env' (St.put {st with h:=p.land st.h} o.dst (p.av st.h.size)) (a.put o.dst v) (w1.setChan c0 0 #[] false s r false):=
    ⟨_,_,kps,envs,ws,rfl,BB.snap,s2,hlast,BB.chan,BB.hc,by rw[List.map_append,hA,hB],fun q hq=>B.ok q (by
      rcases List.mem_append.1 hq with hq|hq
      ·simp[hq]
      ·simp[hq]),
     BB.ext.trans BB.hle X',by rw[put_h];exact BB.hle.trans L',fun q hq=>(hno q).2 ⟨BB.no q hq,fun t=>by have:=hTB q t;omega⟩,(hhi _).2 ⟨BB.hidec,fun t=>(hT _ t).2.2 rfl⟩,
     fun q y=>(hhi q).2 ⟨BB.hide q y,fun t=>by have:=hTB q t;have:=BB.snap.rel.hidLt q (.inl y);omega⟩,fun q y=>BB.hide' q ((hhi q).1 y).1,
     fun q hq hn hc=>by rw[hrow q hc,BB.rows q hq hn hc],by rw[hsz];exact BB.size,BB.os,BB.tape,BB.output⟩
   exact(hk _ _ _ _ ⟨_,env',_,hg',hk1 hlast⟩).resolve_right hp
end
end Go.Ae
namespace Go.Ae
variable {C : Ctx} {h h' : Heap} {v vp : AV} {p : PlanP} {w w' : World} {env : Env} {kp : Keep} {ops : Array Oper} {i n m j sz u : Nat} {l : List Int} {s : List (Int × Int)} {prn d b f a : Int} {cs vs : List AV} {nid : Option Nat} {P : Program}
open Go.Conc
def WM(C:Ctx)(nt:Nat)(ac:ACode)(Q:Out->Gh->St->Prop)(g:Gh)(st:St):Prop:=
 ∀(c:Code),jad C.P C.inv nt c=ac->∀extra E ph kp env a w,GSim C extra nt E g ph kp env st a w->
  WpM C.P c (fun o ph' kp' a' w'=>∃g' env' st',GSim C extra nt E g' ph' kp' env' st' a' w'/\Q o g' st') ph kp a w
def WMo(C:Ctx)(nt:Nat)(aops:List AOper)(K:Gh->St->Prop)(g:Gh)(st:St):Prop:=
 ∀(ops:Array Oper) (k:Nat),k<=ops.size->(ops.toList.drop k).map (jao C.P C.inv nt ops)=aops->∀extra E ph kp env a w,GSim C extra nt E g ph kp env st a w->
  OpsM C.P ops (List.range' k (ops.size-k)) (fun ph' kp' a' w'=>∃g' env' st',GSim C extra nt E g' ph' kp' env' st' a' w'/\K g' st') ph kp a w
section
variable {C : Ctx} {nt : Nat} {Q Q' : Out -> Gh -> St -> Prop} {g : Gh} {st : St}
theorem kaJ{ac:ACode}(h:∀ph,wp (C.at ph) nt none ac (fun o st'=>Q o g st') st):WM C nt ac Q g st:=by
 intro c hc extra E ph kp env a w S;subst hc;exact jru S (h ph)
theorem jqj{inv:FuncId->Option Nat}{c:Code}{x y:ACode}(h:jad P inv nt c=.seq x y):∃a b,c=.seq a b/\jad P inv nt a=x/\jad P inv nt b=y:=by
 cases c with
 |seq a b=>simp only[jad,ACode.seq.injEq]at h;exact⟨a,b,rfl,h.1,h.2⟩
 |region id ops d=>cases d<;>simp only[jad]at h<;>(repeat' split at h)<;>cases h
 |cond c a b=>simp only[jad]at h;split at h<;>cases h
 |rangeFunc f ps a b=>simp only[jad]at h;(repeat' split at h)<;>cases h
 |_=>simp[jad]at h
theorem jqk{inv:FuncId->Option Nat}{c:Code}{id:Nat}{x:ACode}(h:jad P inv nt c=.block id x):∃a,c=.block id a/\jad P inv nt a=x:=by
 cases c with
 |block i a=>simp only[jad,ACode.block.injEq]at h;obtain⟨rfl,h⟩:=h;exact⟨a,rfl,h⟩
 |region id ops d=>cases d<;>simp only[jad]at h<;>(repeat' split at h)<;>cases h
 |cond c a b=>simp only[jad]at h;split at h<;>cases h
 |rangeFunc f ps a b=>simp only[jad]at h;(repeat' split at h)<;>cases h
 |_=>simp[jad]at h
theorem jrx{inv:FuncId->Option Nat}{c:Code}{x:ACode}(h:jad P inv nt c=.loop x):∃a,c=.loop a/\jad P inv nt a=x:=by
 cases c with
 |loop a=>simp only[jad,ACode.loop.injEq]at h;exact⟨a,rfl,h⟩
 |region id ops d=>cases d<;>simp only[jad]at h<;>(repeat' split at h)<;>cases h
 |cond c a b=>simp only[jad]at h;split at h<;>cases h
 |rangeFunc f ps a b=>simp only[jad]at h;(repeat' split at h)<;>cases h
 |_=>simp[jad]at h
theorem jje{inv:FuncId->Option Nat}{c:Code}{l:List AOper}(h:jad P inv nt c=.region l):∃id ops,c=.region id ops false/\ops.toList.map (jao P inv nt ops)=l:=by
 cases c with
 |region id ops d=>
  cases d with
  |false=>simp only[jad,ACode.region.injEq]at h;exact⟨id,ops,rfl,h⟩
  |true=>simp only[jad]at h;(repeat' split at h)<;>cases h
 |cond c a b=>simp only[jad]at h;split at h<;>cases h
 |rangeFunc f ps a b=>simp only[jad]at h;(repeat' split at h)<;>cases h
 |_=>simp[jad]at h
theorem ka3{x y:ACode}(h:WM C nt x (fun o g' st'=>match o with|.normal=>WM C nt y Q g' st'|o=>Q o g' st') g st):WM C nt (.seq x y) Q g st:=by
 intro c hc extra E ph kp env a w S;obtain⟨x',y',rfl,hx,hy⟩:=jqj hc;refine jtd (jig (h x' hx extra E ph kp env a w S) ?_);rintro o ph' kp' a' w' ⟨g',env',st',S',q⟩;cases o with
 |normal=>exact q y' hy extra E ph' kp' env' a' w' S'
 |exit id=>exact⟨g',env',st',S',q⟩
 |ret=>exact⟨g',env',st',S',q⟩
theorem kaZ{id:Nat}{x:ACode}(h:WM C nt x (fun o g' st'=>match o with|.exit id'=>if id'=id then Q .normal g' st' else Q (.exit id') g' st'|o=>Q o g' st') g st):WM C nt (.block id x) Q g st:=by
 intro c hc extra E ph kp env a w S;obtain⟨x',rfl,hx⟩:=jqk hc;refine jrt (jig (h x' hx extra E ph kp env a w S) ?_);rintro o ph' kp' a' w' ⟨g',env',st',S',q⟩;cases o with
 |normal=>exact⟨g',env',st',S',q⟩
 |ret=>exact⟨g',env',st',S',q⟩
 |exit id'=>
  dsimp only at q|-;by_cases e:id'=id
  ·rw[if_pos e]at q|-;exact⟨g',env',st',S',q⟩
  ·rw[if_neg e]at q|-;exact⟨g',env',st',S',q⟩
theorem kby{x:ACode}(I:Nat->Gh->St->Prop){j0:Nat}(h0:I j0 g st)(round:∀j g' st',I j g' st'->WM C nt x (fun o g2 st2=>match o with|.normal=>∃i,i<j/\I i g2 st2|o=>Q o g2 st2) g' st'):WM C nt (.loop x) Q g st:=by
 intro c hc extra E ph kp env a w S;obtain⟨x',rfl,hx⟩:=jrx hc;refine jsJ (fun j ph kp a w=>∃g' env' st',GSim C extra nt E g' ph kp env' st' a w/\I j g' st') ⟨g,env,st,S,h0⟩ ?_;rintro j ph kp a w ⟨g',env',st',S',hI⟩;refine jig (round j g' st' hI x' hx extra E ph kp env' a w S') ?_;rintro o ph' kp' a' w' ⟨g2,env2,st2,S2,q⟩;cases o with
 |normal=>obtain⟨i,hi,q⟩:=q;exact⟨i,hi,g2,env2,st2,S2,q⟩
 |exit id=>exact⟨g2,env2,st2,S2,q⟩
 |ret=>exact⟨g2,env2,st2,S2,q⟩
theorem ka8{l:List AOper}(h:WMo C nt l (Q .normal) g st):WM C nt (.region l) Q g st:=by
 intro c hc extra E ph kp env a w S;obtain⟨id,ops,rfl,hl⟩:=jje hc;refine jqh ?_;rw[List.range_eq_range'];exact h ops 0 (Nat.zero_le _) (by simpa using hl) extra E ph kp env a w S
theorem kbj{K:Gh->St->Prop}(h:K g st):WMo C nt [] K g st:=by
 intro ops k hk hl extra E ph kp env a w S;have:ops.size-k=0:=by
  have:=congrArg List.length hl;simp at this;omega
 rw[this];exact jte ⟨g,env,st,S,h⟩
theorem jeD{k:Nat}{f:Oper->AOper}{o:AOper}{os:List AOper}(h:(ops.toList.drop k).map f=o::os):∃x,ops[k]? =some x/\f x=o/\(ops.toList.drop (k+1)).map f=os/\k+1<=ops.size/\ops.size-k=(ops.size-(k+1))+1:=by
 have hlt:k<ops.size:=by
  rcases Nat.lt_or_ge k ops.size with x|x
  ·exact x
  ·rw[List.drop_of_length_le (by simpa using x)]at h;cases h
 rw[List.drop_eq_getElem_cons (by simpa using hlt),List.map_cons,List.cons.injEq]at h;exact⟨ops[k],Array.getElem?_eq_getElem hlt,by simpa using h.1,h.2,hlt,by omega⟩
theorem kbI{K:Gh->St->Prop}{o:AOper}{os:List AOper}(hg:o.guard=none)(h:∀ph,wpOp (C.at ph) none o (fun st'=>WMo C nt os K g st') st):WMo C nt (o::os) K g st:=by
 intro ops k hk hl extra E ph kp env a w S;obtain⟨x,hx,he,htl,hk1,hsz⟩:=jeD hl;rw[hsz,List.range'_succ];refine jmL ?_;have hw:Region.wanted x (yielded ops a.tmps)=true:=by
  rcases jct (P:=C.P) (inv:=C.inv) (nt:=nt) (ops:=ops) (o:=x)with⟨s,hs⟩|⟨g',hg',hge,_,_⟩
  ·exfalso;rw[<-he,hs]at h;exact jhz (h ph)
  ·rw[he,hg]at hge;subst hge;refine jc8 ?_ _;cases hgx:x.guard with
   |none=>rfl
   |some jw=>
    obtain⟨j,want⟩:=jw;rw[hgx]at hg';simp only[jbM]at hg';split at hg'<;>cases hg'
 refine jih (jrv S hx hw (by rw[he];exact h ph)) ?_;rintro ph' kp' a' w' ⟨g',env',st',S',q⟩;exact q ops (k+1) hk1 htl extra E ph' kp' env' a' w' S'
theorem kbU{K:Gh->St->Prop}{dst:Option Nat}{f:AOpd}{xs:List AOpd}{os:List AOper}(h:wpGo C g (f.ev st.t) (xs.map (·.ev st.t)) dst (WMo C nt os K) st):WMo C nt ({dst:=dst,op:=.comm 0 (f::xs),guard:=none}::os) K g st:=by
 intro ops k hk hl extra E ph kp env a w S;obtain⟨x,hx,he,htl,hk1,hsz⟩:=jeD hl;rw[hsz,List.range'_succ];refine jmL (jih (om_go S hx he h) ?_);rintro ph' kp' a' w' ⟨g',env',st',S',q⟩;exact q ops (k+1) hk1 htl extra E ph' kp' env' a' w' S'
theorem kbH{K:Gh->St->Prop}{dst:Option Nat}{x:AOpd}{os:List AOper}(h:jnr g (x.ev st.t) dst (WMo C nt os K) st):WMo C nt ({dst:=dst,op:=.comm 1 [x],guard:=none}::os) K g st:=by
 intro ops k hk hl extra E ph kp env a w S;obtain⟨o,hx,he,htl,hk1,hsz⟩:=jeD hl;rw[hsz,List.range'_succ];refine jmL (jih (jsK S hx he h) ?_);rintro ph' kp' a' w' ⟨g',env',st',S',q⟩;exact q ops (k+1) hk1 htl extra E ph' kp' env' a' w' S'
theorem joB{gi:Nat}{b:ABody}(hbody:C.body gi=some b){args:List AV}(hargs:args.length<=b.ntmps){h:Heap}{Post:AV->Heap->Prop}
  (hwp:WM C b.ntmps b.code (fun o g st=>g=.idle/\retO b.res Post o st) .idle ⟨argT args,h,[]⟩):ACalls C.main0 gi args h Post:=by
 unfold Ctx.body jjh at hbody;split at hbody
 ·rename_i fn hf;split at hbody
  ·cases hbody
  ·rename_i hname;split at hbody
   ·rename_i c rs hc hrs;cases hbody;refine⟨?_,?_⟩
    ·intro args w;show(callFunc (C.lk gi) args).run C.P w=.ok (.enter (C.lk gi) args) w/\∀es,(callFunc (C.lk gi) args).events C.P w es=es;refine⟨by simp[callFunc,hf,hname,hc,mark],fun es=>?_⟩;simp[callFunc,Sem.events_bind,hf,hname,hc,Result.evThen]
    ·intro extra kp env w R0 hbel J hJ cs hk;have R:Rel C (kp.or extra) env h w:=⟨R0.1,R0.2,R0.3,R0.4,R0.5,R0.6,R0.7,R0.8⟩;have S:Sim C (kp.or extra) fn.ntmps env ⟨argT args,h,[]⟩ {tmps:=(args.map (AV.val C.lk env)).toArray++Array.replicate (fn.ntmps-(args.map (AV.val C.lk env)).toArray.size) undef,defers:=[]} w:=by
      have hsz:(args.map (AV.val C.lk env)).toArray.size=args.length:=by simp
      refine⟨?_,?_,?_,rfl,by simp,R⟩
      ·have:args.length<=fn.ntmps:=hargs;simp;omega
      ·intro s;rw[Array.getD_eq_getD_getElem?,Array.getElem?_append,hsz];simp only[argT,List.getD_eq_getElem?_getD];by_cases hs:s<args.length
       ·rw[if_pos hs];simp[hs]
       ·rw[if_neg hs,List.getElem?_eq_none (by omega)];simp only[Option.getD_none,Array.getElem?_replicate];split<;>rfl
      ·intro s;simp only[argT,List.getD_eq_getElem?_getD];cases hs:args[s]? with
       |none=>trivial
       |some v=>exact hbel v (List.mem_of_getElem? hs)
     let b:Frame:={(default:Frame)with fn:=C.lk gi,kind:=.normal,roundOf:=none}
     have henter:Frame.enter C.P (C.lk gi) (args.map (AV.val C.lk env)).toArray .normal=
       b.atR {tmps:=(args.map (AV.val C.lk env)).toArray++Array.replicate (fn.ntmps-(args.map (AV.val C.lk env)).toArray.size) undef,defers:=[]} [.code c]:=by
      simp[Frame.enter,Frame.atR,hf,hc,b]
     show J kp (G (Frame.enter C.P (C.lk gi) (args.map (AV.val C.lk env)).toArray .normal) cs) w;rw[henter];obtain⟨Fin,p,rfl⟩:=hJ;have hJ:C.main0.fam (MJ0 C.P Fin p):=⟨Fin,p,rfl⟩;have HS:GSim C extra fn.ntmps ⟨kp,env,h,w⟩ .idle none kp env ⟨argT args,h,[]⟩ {tmps:=(args.map (AV.val C.lk env)).toArray++Array.replicate (fn.ntmps-(args.map (AV.val C.lk env)).toArray.size) undef,defers:=[]} w:=
      ⟨rfl,⟨R,⟨Nat.le_refl _,rfl,rfl,rfl,fun _ _ _ _=>rfl,fun _ h=>h,fun _ _ h=>.inl h⟩,kam _ _,kax _,fun _ h=>h,fun _ h=>.inl h⟩,S⟩
     have H:=hwp c rfl extra ⟨kp,env,h,w⟩ none kp env _ w HS;refine H Fin p b [] cs rfl (by simp[b]) ?_;rintro o ph' kp' a' w' ⟨g',env',st',S',rfl,hret⟩;obtain⟨rfl,hSn,hs⟩:=S';have hKJ:KeepJ kp extra w kp' w':=⟨hSn.since.size,hSn.since.os,hSn.since.tape,hSn.since.output,hSn.since.block,hSn.no,hSn.no',hSn.since.hide,hSn.since.hide'⟩;have hX:Ext h env env':=hSn.ext;have hL:HLe h st'.h:=hSn.hle;have s0:Sim C.main0 (kp'.or extra) fn.ntmps env' st' a' w':=jlx (ph:=none) hs;have fin:∀todo,(∃h1 vs,jbb st'.h st'.m=some h1/\resA st'.t h1 rs=some vs/\Post (retA vs) h1)->MJ0 C.P Fin p kp' (G {b.atR a' todo with mode:=.returning} cs) w':=by
      rintro todo ⟨h1,vs,hcm,hres,hP⟩;refine jeq (C:=C.main0) hJ st'.m rfl s0.defers s0.rel hcm fun kp1 w1 R1 K1=>?_;have hl1:=jd0 _ _ _ hcm;have hbel1:∀s,(st'.t s).bel h1.ok:=fun s=>bel_mono (fun i hi=>hl1.ok hi) _ (s0.bel s);have q:=jbQ (C:=C.main0) (tmps:=a'.tmps) R1 s0.tmps hbel1 hrs hres;refine hk kp1 ((retA vs).val C.lk env') w1 _ ⟨env',_,h1,rfl,hP,R1,hKJ.trans K1,hX,hL.trans hl1,q.2⟩ ⟨rfl,rfl,rfl,rfl,fn,hf,fun kp2 w2 r2=>?_⟩;have R2:=R1.rely r2;exact⟨(jbQ (C:=C.main0) (tmps:=a'.tmps) R2 s0.tmps hbel1 hrs hres).1,fun e he=>(jeX (C:=C.main0) (tmps:=a'.tmps) R2 s0.tmps hbel1 hrs hres e he).part⟩
     have un:∀{o},(∀id,o≠.exit id)->retO rs Post o st'->∃h1 vs,jbb st'.h st'.m=some h1/\resA st'.t h1 rs=some vs/\Post (retA vs) h1:=by
      intro o ho hr;have hr':match jbb st'.h st'.m with
       |some h1=>match resA st'.t h1 rs with
        |some vs=>Post (retA vs) h1
        |none=>False
       |none=>False:=by
       cases o with
       |exit id=>exact absurd rfl (ho id)
       |normal=>exact hr
       |ret=>exact hr
      split at hr'
      ·rename_i h1 e1;split at hr'
       ·rename_i vs e2;exact⟨h1,vs,e1,e2,hr'⟩
       ·exact hr'.elim
      ·exact hr'.elim
     cases o with
     |normal=>exact jeJ.ctl rfl rfl (fun _=>jo5 rfl) (fin [] (un (by intro id h;cases h) hret))
     |ret=>exact fun k2=>jeJ.ctl rfl rfl (fun _=>jrO rfl) (fin _ (un (by intro id h;cases h) hret))
     |exit id=>exact hret.elim
   ·cases hbody
 ·cases hbody
end
end Go.Ae
namespace Go.Ae
variable {C : Ctx} {h h' : Heap} {v vp : AV} {p : PlanP} {w w' : World} {env : Env} {kp : Keep} {ops : Array Oper} {i n m j sz u : Nat} {l : List Int} {s : List (Int × Int)} {prn d b f a : Int} {cs vs : List AV} {nid : Option Nat} {P : Program}
open Go.Conc
structure WIn (C:Ctx) (nt:Nat) (ic c B:Nat) (kp:Keep) (env:Env) (st:St) (a:Act) (w:World) (b:Frame) (cs:List Frame):Prop where
 sim:Sim C (kp.or kar) nt env st a w
 ok:st.h.ok ic
 hc:(env ic).blk=c
 no:∀r,r<B->kp.no r
 ro:b.roundOf=none
 kind:b.kind≠.early
 quit:∀a':Act,a'.defers=[]->∃n,QuitsIn C.P n (G (b.atR a' []) cs)
def WW(C:Ctx)(p:AProm)(ic nt:Nat)(ac:ACode)(st:St):Prop:=
 ∀code,jad C.P C.inv nt code=ac->∀c B kp env a w b cs,WIn C nt ic c B kp env st a w b cs->JW C.P c (p.prom C.lk B) kp (G (b.atR a [.code code]) cs) w
def WWo(C:Ctx)(p:AProm)(ic nt:Nat)(aops:List AOper)(st:St):Prop:=
 ∀(ops:Array Oper) (k:Nat),k<=ops.size->(ops.toList.drop k).map (jao C.P C.inv nt ops)=aops->∀c B kp env a w b cs,WIn C nt ic c B kp env st a w b cs->
  JW C.P c (p.prom C.lk B) kp (G (b.atR a [.inRegion ops (List.range' k (ops.size-k))]) cs) w
def jrY(p:AProm)(ic:Nat)(x y:AOpd)(st:St):Prop:=
 st.m=[]/\x.ev st.t=.chan ic/\∃n,y.ev st.t=p.av n/\∀vs,p.blk=some vs->∃u,st.h.get n=some (.cells vs true u)
section
variable {C : Ctx} {p : AProm} {ic nt : Nat} {st : St}
theorem jns{c:Nat}{Φ:Prom}{keep:Keep}{a:Act}(h:Sim C keep nt env st a w):Sim (C.work c Φ) keep nt env st a w:=⟨h.size,h.tmps,h.bel,h.defers,h.marks,h.rel.1,h.rel.2,h.rel.3,h.rel.4,h.rel.5,h.rel.6,h.rel.7,h.rel.8⟩
theorem jmM{c:Nat}{Φ:Prom}{keep:Keep}{a:Act}(h:Sim (C.work c Φ) keep nt env st a w):Sim C keep nt env st a w:=⟨h.size,h.tmps,h.bel,h.defers,h.marks,h.rel.1,h.rel.2,h.rel.3,h.rel.4,h.rel.5,h.rel.6,h.rel.7,h.rel.8⟩
theorem WIn.far{c B:Nat}{Φ:Prom}{kp':Keep}{env':Env}{st':St}{a a':Act}{b:Frame}{cs:List Frame}(I:WIn C nt ic c B kp env st a w b cs)(F:Far (C.work c Φ) kar nt kp env st w kp' env' st' a' w'):WIn C nt ic c B kp' env' st' a' w' b cs:=
 ⟨jmM F.sim,F.grow.same _ I.ok,by rw[F.ext ic I.ok];exact I.hc,fun r hr=>F.keepJ.no r (I.no r hr),I.ro,I.kind,I.quit⟩
theorem kbP{x y:ACode}(h:∀c Φ,wp (C.work c Φ) nt none x (fun o st'=>o=.normal/\WW C p ic nt y st') st):WW C p ic nt (.seq x y) st:=by
 intro code hcode c B kp env a w b cs I;obtain⟨x',y',rfl,hx,hy⟩:=jqj hcode;have low:jad (C.work c (p.prom C.lk B)).P (C.work c (p.prom C.lk B)).inv nt x'=x:=hx;refine(jft C.P c (p.prom C.lk B)).ctl rfl rfl (fun _=>jo2) ?_;have H:=jeH (C:=C.work c (p.prom C.lk B)) (extra:=kar) (nt:=nt) default none (jcl _ none) (jcN _ none) x' (fun o st'=>o=.normal/\WW C p ic nt y st') kp env st a w (by rw[low];exact h c _) (jns I.sim) (by intro l hl;cases hl);refine H _ (.inl rfl) b [.code y'] cs I.ro I.kind ?_;rintro o kp' a' w' ⟨env',st',F,_,_,rfl,hW⟩;exact hW y' hy c B kp' env' a' w' b cs (I.far F)
theorem kbC{l:List AOper}(h:WWo C p ic nt l st):WW C p ic nt (.region l) st:=by
 intro code hcode c B kp env a w b cs I;obtain⟨id,ops,rfl,hl⟩:=jje hcode;refine(jft C.P c (p.prom C.lk B)).ctl rfl rfl (fun _=>jhu) ?_;rw[List.range_eq_range'];exact h ops 0 (Nat.zero_le _) (by simpa using hl) c B kp env a w b cs I
theorem jql{x:Oper}{o:AOper}{C':Ctx}{K:St->Prop}(he:jao C'.P C'.inv nt ops x=o)(hg:o.guard=none)(h:wpOp C' nid o K st)(y:Nat->Option Bool):Region.wanted x y=true:=by
 rcases jct (P:=C'.P) (inv:=C'.inv) (nt:=nt) (ops:=ops) (o:=x)with⟨s,hs⟩|⟨g',hg',hge,_,_⟩
 ·exfalso;rw[<-he,hs]at h;exact jhz h
 ·rw[he,hg]at hge;subst hge;refine jc8 ?_ _;cases hgx:x.guard with
  |none=>rfl
  |some jw=>
   obtain⟨j,want⟩:=jw;rw[hgx]at hg';simp only[jbM]at hg';split at hg'<;>cases hg'
theorem kaV{o:AOper}{os:List AOper}(hg:o.guard=none)(h:∀c Φ,wpOp (C.work c Φ) none o (fun st'=>WWo C p ic nt os st') st):WWo C p ic nt (o::os) st:=by
 intro ops k hk hl c B kp env a w b cs I;obtain⟨x,hx,he,htl,hk1,hsz⟩:=jeD hl;rw[hsz,List.range'_succ];have he':jao (C.work c (p.prom C.lk B)).P (C.work c (p.prom C.lk B)).inv nt ops x=o:=he;have hw:=jql (C':=C.work c (p.prom C.lk B)) he' hg (h c _) (yielded ops a.tmps);have H:=jfG (C:=C.work c (p.prom C.lk B)) (extra:=kar) (jns I.sim) none hx hw he' (h c _);refine H _ (.inl rfl) b _ [] cs I.ro I.kind ?_;rintro kp' a' w' ⟨env',st',F,_,_,q⟩;exact q ops (k+1) hk1 htl c B kp' env' a' w' b cs (I.far F)
theorem joC{ops:Array Oper}{o:Oper}{dst:Option Nat}{x y:AOpd}(h:jao C.P C.inv nt ops o={dst:=dst,op:=.comm 2 [x,y],guard:=none}):
  ∃ch v,o.op=.send ch v/\lowerOpd C.inv ch=some x/\lowerOpd C.inv v=some y/\o.dst=dst/\o.guard=none:=by
 unfold jao at h;split at h
 ·rename_i aop g h1 h2 h3;simp only[AOper.mk.injEq]at h;obtain⟨hd,rfl,rfl⟩:=h;have hg:o.guard=none:=by
   cases hg:o.guard with
   |none=>rfl
   |some jw=>
    obtain⟨j,want⟩:=jw;rw[hg]at h3;simp only[jbM]at h3;split at h3<;>cases h3
  cases hop:o.op with
  |send ch v=>
   rw[hop]at h1;simp only[lowerOp]at h1;split at h1
   ·rename_i c' x' hc hx;cases h1;exact⟨ch,v,rfl,hc,hx,hd,hg⟩
   ·cases h1
  | call c =>
   exfalso;rw[hop]at h1;have h1':ja9 C.P C.inv c=some (.comm 2 [x,y]):=h1;unfold ja9 at h1';split at h1'
   ·split at h1'
    ·simp only[Option.map_eq_some_iff]at h1';obtain⟨_,_,h1'⟩:=h1';cases h1'
    ·unfold ja4 at h1'
     repeat' split at h1'
     all_goals first
      |(cases h1';done)
      |(simp only[Option.map_eq_some_iff]at h1';obtain⟨_,_,h1'⟩:=h1';cases h1';done)
    ·cases h1'
   ·cases h1'
  |makeFunc fn x y=>
   exfalso;rw[hop]at h1;cases fn<;>simp only[lowerOp]at h1;all_goals first|(cases h1;done)|((repeat' split at h1)<;>cases h1;done)
  |makeMap _ r=>exfalso;rw[hop]at h1;cases r<;>simp only[lowerOp,lowerMap]at h1<;>(repeat' split at h1)<;>cases h1
  |mapUpdate _ _ _ _=>exfalso;rw[hop]at h1;simp only[lowerOp,lowerMap]at h1;(repeat' split at h1)<;>first|(cases h1;done)|(simp only[Option.map_eq_some_iff]at h1;obtain⟨_,_,h1⟩:=h1;cases h1;done)
  |insert _ _ _ _=>exfalso;rw[hop]at h1;simp only[lowerOp,lowerMap]at h1;(repeat' split at h1)<;>first|(cases h1;done)|(simp only[Option.map_eq_some_iff]at h1;obtain⟨_,_,h1⟩:=h1;cases h1;done)
  |lookup _ _ _ _=>exfalso;rw[hop]at h1;simp only[lowerOp,lowerMap]at h1;(repeat' split at h1)<;>first|(cases h1;done)|(simp only[Option.map_eq_some_iff]at h1;obtain⟨_,_,h1⟩:=h1;cases h1;done)
  | _ =>
   exfalso;rw[hop]at h1
   first
    |(simp only[lowerOp]at h1;(repeat' split at h1)<;>first|(cases h1;done)|(simp only[Option.map_eq_some_iff]at h1;obtain⟨_,_,h1⟩:=h1;cases h1;done))
    |(unfold lowerOp at h1;simp only[jbE,jaJ]at h1;(repeat' split at h1)<;>first|(cases h1;done)|(simp only[Option.map_eq_some_iff]at h1;obtain⟨_,_,h1⟩:=h1;cases h1;done))
 ·cases h
theorem joD(hp:p.Ok){ops:Array Oper}{i:Nat}{o:Oper}{dst:Option Nat}{x y:AOpd}(ho:ops[i]? =some o)(hl:jao C.P C.inv nt ops o={dst:=dst,op:=.comm 2 [x,y],guard:=none})(hS:jrY p ic x y st)
  {c B:Nat} {kp:Keep} {env:Env} {a:Act} {w:World} {b:Frame} {cs:List Frame} (I:WIn C nt ic c B kp env st a w b cs):JW C.P c (p.prom C.lk B) kp (G (b.atR a [.inRegion ops [i]]) cs) w:=by
 obtain⟨ch,v,hop,hx,hy,rfl,hg⟩:=joC hl;obtain⟨hm,hch,n,hv,hblk⟩:=hS;have hw:=jc8 hg (yielded ops a.tmps);have hev:a.eval ch=.chan (some c):=by
  have:=(I.sim.opd ch x hx).1;rw[hch]at this;simp only[AV.val,I.hc]at this;exact this
 have hvv:a.eval v=(p.av n).val C.lk env:=by rw[(I.sim.opd v y hy).1,hv]
 have hd0:a.defers=[]:=by rw[I.sim.defers,hm];rfl
 have step:∀w1,stepG C.P false (G (b.atR a [.inRegion ops [i]]) cs) w1=.comm (G (b.atR a [.inRegion ops [i]]) cs) #[scase c ((p.av n).val C.lk env) (.tuple #[])] true .send w1 #[]:=by
  intro w1;have h1:(execOp a.eval o).run C.P w1=.ok (.comm #[scase c ((p.av n).val C.lk env) (.tuple #[])] true .send) w1:=by
   simp only[execOp,hop,Sem.run_pure,hev,hvv,scase]
  have h2:(execOp a.eval o).events C.P w1 #[]= #[]:=by simp only[execOp,hop,Sem.events_pure]
  rw[jo6 ho hw (fun c' e=>by rw[hop]at e;cases e) I.kind h1];simp only[evs,h2,seen_none]
 obtain⟨m,hq⟩:=I.quit (a.put o.dst undef) (by cases o.dst<;>exact hd0);refine .send ((p.av n).val C.lk env) (.tuple #[]) (fun r=>p.blk≠none/\r=(env n).blk) (m+1) rfl (fun kp1 w1 _=>step w1) (fun kp1 w1 r=>?_) (fun r hr=>?_) ?_
 ·refine⟨env n,hp.shift _ _ _,?_⟩;have R1:=(I.sim.rely r).rel;cases hb:p.blk with
  |none=>exact fun r hr=>hr.1 rfl
  | some vs =>
   obtain⟨u,hu⟩:=hblk vs hb;have hk:¬kp.no (env n).blk:=fun x=>I.sim.rel.kept n _ hu rfl (.inl x);refine⟨?_,R1.lt n _ hu,fun r=>by simp,fun k v hkv=>?_⟩
   ·rcases Nat.lt_or_ge (env n).blk B with z|z
    ·exact absurd (I.no _ z) hk
    ·exact z
   ·rw[R1.cell hu hkv];congr 1;exact jei (fun _ h=>h.elim) v (hp.cells vs hb v (List.mem_of_getElem? hkv))
 ·obtain⟨hb,rfl⟩:=hr;cases hbb:p.blk with
  |none=>exact absurd hbb hb
  |some vs=>
   obtain⟨u,hu⟩:=hblk vs hbb;exact⟨I.sim.rel.lt n _ hu,fun x=>I.sim.rel.kept n _ hu rfl (.inl x)⟩
 ·rw[jjd ho];exact QuitsIn.ctl rfl (fun w=>jdY) hq
theorem kbF(hp:p.Ok){dst:Option Nat}{x y:AOpd}(h:jrY p ic x y st):WWo C p ic nt [{dst:=dst,op:=.comm 2 [x,y],guard:=none}] st:=by
 intro ops k hk hl c B kp env a w b cs I;obtain⟨o,ho,he,htl,hk1,hsz⟩:=jeD hl;have h0:ops.size-(k+1)=0:=by
  have:=congrArg List.length htl;simp at this;omega
 rw[hsz,h0];exact joD hp ho he h I
end
end Go.Ae
namespace Go.Ae
variable {C : Ctx} {h h' : Heap} {v vp : AV} {p : PlanP} {w w' : World} {env : Env} {kp : Keep} {ops : Array Oper} {i n m j sz u : Nat} {l : List Int} {s : List (Int × Int)} {prn d b f a : Int} {cs vs : List AV} {nid : Option Nat} {P : Program}
open Go.Conc
section
variable {C : Ctx} {p : AProm} {ic nt : Nat} {st : St}
def jgU(P:Program):Frame:={(default:Frame)with fn:=P.funcs.size,defers:=[],mode:=.panicking [goexitEntry]}
theorem jsL{P:Program}{f:FuncId}{cap args:Array Value}{w:World}(h:∀zas w,(callFunc f zas).run P w=.ok (.enter f zas) w/\∀es,(callFunc f zas).events P w es=es):
  stepG P false (born P {target:=.fn (.func f) cap,args:=args}) w=.go (G (Frame.enter P f (args++cap) .deferred) [jgU P]) w #[]:=by
 have h1:(invoke (.fn (.func f) cap) args).run P w=.ok (.enter f (args++cap)) w:=by simp only[invoke];exact(h _ w).1
 have h2:(invoke (.fn (.func f) cap) args).events P w #[]= #[]:=by simp only[invoke];exact(h _ w).2 #[]
 simp[born,stepG,unwind,callDeferred,Sem.runT_eq,h1,h2,GStep.after,G,jgU,seen_none]
theorem jqm(P:Program):QuitsIn P 1 (G (jgU P) []):=by
 refine .inr ⟨rfl,{frame:=jgU P,callers:=[],status:=.finished,dying:=none},fun w=>?_,rfl⟩;have h:(default:Frame).todo=[]:=rfl;simp[G,jgU,stepG,unwind,Frame.catches,goexitEntry,h]
theorem jsM{fn:Func}{b:Frame}{a:Act}(hf:P.funcs[b.fn]? =some fn)(hr:fn.results= #[])(hk:b.kind=.deferred)(hro:b.roundOf=none)(hd:a.defers=[]):∃n,QuitsIn P n (G (b.atR a []) [jgU P]):=by
 refine⟨3,QuitsIn.ctl rfl (fun w=>jo5 hro) ?_⟩;refine QuitsIn.ctl (g':=G (jgU P) []) rfl (fun w=>?_) (jqm P);have h1:=results_none hr a.tmps P w;have h2:=events_results_none (P:=P) (w:=w) hr a.tmps;simp[G,stepG,unwind,Frame.atR,hd,hf,Sem.runT_eq,h1,h2,doReturn,hk,GStep.after,jgU,goexitEntry,seen_none]
theorem joE(hp:p.Ok){gw:Nat}{b:ABody}(hbody:C.body gw=some b)(hres:b.res=[]){first args cap:List AV}(hargs:(first++args++cap).length<=b.ntmps){h:Heap}(hic:h.ok ic)
  (hw:WW C p ic b.ntmps b.code ⟨argT (first++args++cap),h,[]⟩):jqi C gw first args cap ic h p:=by
 intro B kp env w R hB hno hhide hbel;unfold Ctx.body jjh at hbody;split at hbody
 ·rename_i fn hf;split at hbody
  ·cases hbody
  ·rename_i hname;split at hbody
   ·rename_i c rs hc hrs;cases hbody;dsimp only at hres;subst hres;have hresults:fn.results= #[]:=by
     cases hl:fn.results.toList with
     |nil=>simpa using hl
     |cons r rs=>
      rw[hl]at hrs;unfold lowerRess at hrs;split at hrs<;>cases hrs
    have hent:∀zas w,(callFunc (C.lk gw) zas).run C.P w=.ok (.enter (C.lk gw) zas) w/\∀es,(callFunc (C.lk gw) zas).events C.P w es=es:=by
     intro zas w;refine⟨by simp[callFunc,hf,hname,hc,mark],fun es=>?_⟩;simp[callFunc,Sem.events_bind,hf,hname,hc,Result.evThen]
    have hcl:=jft C.P (env ic).blk (p.prom C.lk B);refine hcl.go rfl fun kp1 w1 r=>⟨_,w1, #[],jsL hent,rfl,kaz _ _,fun e he=>(by simp at he),?_⟩;have hvals:((first++args).map (AV.val C.lk env)).toArray++(cap.map (AV.val C.lk env)).toArray=((first++args++cap).map (AV.val C.lk env)).toArray:=by simp
    rw[hvals];have R1:=R.rely r;have S:Sim C (kp1.or kar) fn.ntmps env ⟨argT (first++args++cap),h,[]⟩ {tmps:=((first++args++cap).map (AV.val C.lk env)).toArray++Array.replicate (fn.ntmps-((first++args++cap).map (AV.val C.lk env)).toArray.size) undef,defers:=[]} w1:=by
     generalize first++args++cap=vs at hargs hbel|-
     have hsz:(vs.map (AV.val C.lk env)).toArray.size=vs.length:=by simp
     refine⟨?_,?_,?_,rfl,by simp,R1⟩
     ·have:vs.length<=fn.ntmps:=hargs;simp;omega
     ·intro s;rw[Array.getD_eq_getD_getElem?,Array.getElem?_append,hsz];simp only[argT,List.getD_eq_getElem?_getD];by_cases hs:s<vs.length
      ·rw[if_pos hs];simp[hs]
      ·rw[if_neg hs,List.getElem?_eq_none (by omega)];simp only[Option.getD_none,Array.getElem?_replicate];split<;>rfl
     ·intro s;simp only[argT,List.getD_eq_getElem?_getD];cases hs:vs[s]? with
      |none=>trivial
      |some v=>exact hbel v (List.mem_of_getElem? hs)
    let b:Frame:={(default:Frame)with fn:=C.lk gw,kind:=.deferred,roundOf:=none}
    have henter:Frame.enter C.P (C.lk gw) ((first++args++cap).map (AV.val C.lk env)).toArray .deferred=
      b.atR {tmps:=((first++args++cap).map (AV.val C.lk env)).toArray++Array.replicate (fn.ntmps-((first++args++cap).map (AV.val C.lk env)).toArray.size) undef,defers:=[]} [.code c]:=by
     simp[Frame.enter,Frame.atR,hf,hc,b]
    rw[henter];refine hw c rfl _ B kp1 env _ w1 b _ ⟨S,hic,rfl,fun q hq=>?_,rfl,by simp[b],fun a' ha=>jsM hf hresults rfl rfl ha⟩;rw[r.eq];exact .inl (hno q (by omega))
   ·cases hbody
 ·cases hbody
end
end Go.Ae
namespace Go.Ae
variable {C : Ctx} {h h' : Heap} {v vp : AV} {p : PlanP} {w w' : World} {env : Env} {kp : Keep} {ops : Array Oper} {i n m j sz u : Nat} {l : List Int} {s : List (Int × Int)} {prn d b f a : Int} {cs vs : List AV} {nid : Option Nat} {P : Program}
theorem Has.work{T:List Nat}{c:Nat}{Φ:Prom}(h:Has C T):Has (C.work c Φ) T:=fun g hg b hb=>h g hg b hb
theorem Has.main0{T:List Nat}(h:Has C T):Has C.main0 T:=fun g hg b hb=>h g hg b hb
theorem Has.at{C:Ctx}{T:List Nat}(h:Has C T):∀ph,Has (C.at ph) T
 |none=>fun g hg b hb=>h g hg b hb
 |some _=>fun g hg b hb=>h g hg b hb
theorem kbM(H:SL h sz v n cs)(K:jcd v):SL h.freeze sz v n cs:=by
 obtain⟨hl,hlt,⟨rfl,rfl⟩|⟨i,o,cp,vs,wr,u,rfl,hg,hle,hc,hcap⟩⟩:=H
 ·exact⟨hl,hlt,.inl ⟨rfl,rfl⟩⟩
 ·rcases K with K|⟨i',o',n',c',K⟩
  ·cases K
  ·cases K;exact⟨hl,hlt,.inr ⟨i,o,_,vs,false,u,rfl,by rw[jdM,hg];rfl,hle,hc,hcap⟩⟩
def fndC(i:Nat)(x:HitT)(c:Bool):List AV:=[.int .i64 (i:Nat),.int .i64 x.1,.int .i64 x.2.1,.int .i64 x.2.2.1,.int .i64 x.2.2.2,.bool c]
def fndP(i:Nat)(x:HitT)(c:Bool):AProm:=⟨fun _=>.agg (fndC i x c),none⟩
theorem fndP_ok(i:Nat)(x:HitT)(c:Bool):(fndP i x c).Ok:=
 ⟨fun lk n env=>rfl,fun n q hq=>by simp[fndP,fndC,AV.bel,kas],fun vs h=>by cases h⟩
theorem jsN(hC:Has C TA){v vp:AV}{p:PlanP}{s:List (Int×Int)}{b sh prn f:Int}{m i:Nat}{c0 c1 c2 c3 c4 c5 c6 c7 ic:Nat}{x0 x1 x2 x3 x4 x5 x6 x7:Bool}{u0 u1 u2 u3 u4 u5 u6 u7:Nat}{h:Heap}(hs:SI h v s)(R:RI h vp p.prns)(A:AcOk p s prn)(g0:gErr b sh=0)(hf:0<=f/\f<=1048576)(hm:1<=m/\m<=16)
  (k0:h.get c0=some (.cells [v] x0 u0)) (k1:h.get c1=some (.cells [.int .i64 p.d,.int .i64 p.o,.int .i64 p.pb,.int .i64 p.w,.int .i64 p.mn,.int .i64 p.mx,.int .i64 p.nz,vp] x1 u1)) (k2:h.get c2=some (.cells [.int .i64 prn] x2 u2)) (k3:h.get c3=some (.cells [.int .i64 f] x3 u3)) (k4:h.get c4=some (.cells [.int .i64 (m:Nat)] x4 u4))
  (k5:h.get c5=some (.cells [.int .i64 b,.int .i64 sh] x5 u5)) (k6:h.get c6=some (.cells [.chan ic] x6 u6)) (k7:h.get c7=some (.cells [.int .i64 (i:Nat)] x7 u7)) (hic:h.ok ic):
  jqi C 406 [] [] [.ptr c0 0,.ptr c1 0,.ptr c2 0,.ptr c3 0,.ptr c4 0,.ptr c5 0,.ptr c6 0,.ptr c7 0] ic h (fndP i (hitQ p s f m prn) (clmQ p sh s f m prn)):=by
 have hb:=A.hitB (f:=f) (m:=m);have dE:detErr p b sh prn=0:=by
  unfold detErr askErr;rw[if_pos A.err,g0,if_pos rfl,if_pos A.hin]
 have cE:jgN p b sh prn (hitQ p s f m prn).2.2.1 m=.tuple [.bool (clmQ p sh s f m prn),.int .i64 0]:=by
  unfold jgN;rw[if_pos dE,if_neg (by omega)];rfl
 have W:∀c Φ,(∀H,HSub h H->ACalls (C.work c Φ) 383 [v,plA p vp,.int .i64 prn,.int .i64 f,.int .i64 (m:Nat)] H (fun r h'=>r=.agg (hitCs (hitQ p s f m prn))/\HSub H h'))/\
   (∀H,HSub h H->ACalls (C.work c Φ) 313 [plA p vp,gA b sh,.int .i64 prn,.int .i64 (hitQ p s f m prn).2.2.1,.int .i64 (m:Nat)] H (fun r h'=>r=.tuple [.bool (clmQ p sh s f m prn),.int .i64 0]/\HSub H h')):=fun c Φ=>by
  have hW:Has (C.work c Φ) TA:=hC.work;refine⟨fun H q=>jgO hW (hs.mono q) (R.mono q) A hf hm,fun H q=>?_⟩;have k:=jfo hW (b:=b) (s:=sh) (prn:=prn) (pw:=(hitQ p s f m prn).2.2.1) (m:=(m:Nat)) (h:=H) (R.mono q) A.p64 (by unfold In64;omega) (by unfold In64;omega);rw[cE]at k;exact k
 clear hb dE cE;generalize hitQ p s f m prn=x at*;generalize clmQ p sh s f m prn=cl at*;obtain⟨y1,y2,y3,y4⟩:=x;unfold plA gA hitCs at W;dsimp only at W;have l0:=kab k0;have l1:=kab k1;have l2:=kab k2;have l3:=kab k3;have l4:=kab k4;have l5:=kab k5;have l6:=kab k6;have l7:=kab k7;have q8:∀{w u},loadB true 8 0 (some (.cells [.int .i64 p.d,.int .i64 p.o,.int .i64 p.pb,.int .i64 p.w,.int .i64 p.mn,.int .i64 p.mx,.int .i64 p.nz,vp] w u))=some (.agg [.int .i64 p.d,.int .i64 p.o,.int .i64 p.pb,.int .i64 p.w,.int .i64 p.mn,.int .i64 p.mx,.int .i64 p.nz,vp]):=rfl
 have q2:∀{w u},loadB true 2 0 (some (.cells [.int .i64 b,.int .i64 sh] w u))=some (.agg [.int .i64 b,.int .i64 sh]):=rfl;have q4:∀{w u},loadB true 4 0 (some (.cells [.int .i64 y1,.int .i64 y2,.int .i64 y3,.int .i64 y4] w u))=some (.agg [.int .i64 y1,.int .i64 y2,.int .i64 y3,.int .i64 y4]):=rfl;refine joE (fndP_ok i _ cl) (hC.body (by decide) (by rfl:tab 406=some B406)) rfl (Nat.le_of_ble_eq_true rfl) hic ?_;show WW C _ ic _ B406.code _;simp only[B406,zB];refine kbP fun c Φ=>?_;have w:=W c Φ;refine zs6 @k0 @k1 @k2 @k3 @k4 @q8 ?_;refine kad (w.1 _ (kaf _)) ?_;rintro r h1 ⟨rfl,s1⟩
 have z1:=s1.size;refine zs ?_;clear w;refine kbP fun c Φ=>?_;have w:=W c Φ;have e1:=(s1.get _ l1).trans k1;have e2:=(s1.get _ l2).trans k2;have e4:=(s1.get _ l4).trans k4;have e5:=(s1.get _ l5).trans k5;refine zs6 e1 e2 e4 e5 @q8 @q2 ?_;refine kad (w.2 _ (zh s1)) ?_;rintro r h2 ⟨rfl,s2⟩;have z2:=s2.size;simp only[Heap.size_push]at z2;have e6:h2.get c6=some (.cells [.chan ic] x6 u6):=(s2.get _ (by simp only[Heap.size_push];omega)).trans ((get_push_lt (by omega)).trans ((s1.get _ l6).trans k6));have e7:h2.get c7=some (.cells [.int .i64 (i:Nat)] x7 u7):=(s2.get _ (by simp only[Heap.size_push];omega)).trans ((get_push_lt (by omega)).trans ((s1.get _ l7).trans k7))
 have e8:h2.get h1.size=some (.cells [.int .i64 y1,.int .i64 y2,.int .i64 y3,.int .i64 y4] true 0):=(s2.get _ (by simp only[Heap.size_push];omega)).trans (get_push_eq rfl);refine zs ?_;refine kbC ?_;refine kaV rfl fun c Φ=>?_;refine zs1 e6 ?_;refine kaV rfl fun c Φ=>?_;refine zs1 e7 ?_;refine kaV rfl fun c Φ=>?_;refine zs2 e8 @q4 ?_;refine kaV rfl fun c Φ=>?_;refine zs ?_;refine kaV rfl fun c Φ=>?_;refine zs ?_;refine kbF (fndP_ok i _ cl) ⟨rfl,rfl,0,rfl,fun vs hvs=>by cases hvs⟩
theorem SL.takeK(H:SL h sz v n cs){k:Nat}{kk:IntKind}(hk:k<=n):∃v',(∀h',HSub h h'->jaM h' sz v none (some (.int kk (k:Nat))) none=some v')/\SL h sz v' k (cs.take (k*sz)):=by
 obtain⟨hl,hlt,⟨rfl,rfl⟩|⟨i,o,c,vs,wr,u,rfl,hg,hle,hc,hcap⟩⟩:=H
 ·obtain rfl:k=0:=by omega
  have:cs=[]:=List.eq_nil_of_length_eq_zero (by omega);subst this;exact⟨.nilslice,fun h' _=>rfl,by simp,by omega,.inl ⟨rfl,rfl⟩⟩
 ·have hks:k*sz<=n*sz:=Nat.mul_le_mul_right sz hk;have hct:cut vs o (k*sz)=cs.take (k*sz):=by rw[<-hc];simp only[cut,List.take_take];congr 1;omega
  have hle2:(cs.take (k*sz)).length=k*sz:=by rw[List.length_take];omega
  cases c with
  | known c =>
   have hb:jch n c none (some (.int kk (k:Nat))) none=some (0,k,c):=by
    simp only[jch,intA];rw[if_pos (by omega)];simp
   refine⟨.slice i (if c=0 then o else o+0*sz) (k-0) (.known (c-0)),fun h' _=>by simp only[jaM,hb],hle2,by omega,.inr ⟨i,if c=0 then o else o+0*sz,_,vs,wr,u,rfl,hg,?_,?_,?_⟩⟩
   ·split<;>omega
   ·have:(if c=0 then o else o+0*sz)=o:=by split<;>omega
    rw[this];exact hct
   ·show k<=c-0;have:n<=c:=hcap;omega
  | unk l =>
   obtain⟨rfl,rfl,rfl⟩:=hcap;have hb:jch n n none (some (.int kk (k:Nat))) none=some (0,k,n):=by
    simp only[jch,intA];rw[if_pos (by omega)];simp
   refine⟨.slice i (l*u+0*u) (k-0) (.unk (l+0)),fun h' hs=>?_,hle2,by omega,.inr ⟨i,l*u+0*u,_,vs,true,u,rfl,hg,by omega,by simpa using hct,rfl,rfl,by simp⟩⟩;have hg':=(hs.get i (kab hg)).trans hg;simp only[jaM,hg'];rw[if_pos ⟨trivial,trivial,hle⟩];simp[hb]
section
variable {C : Ctx} {nt : Nat} {Q : Out -> Gh -> St -> Prop} {g : Gh} {st : St}
theorem kaG{a b:ACode}(h:∀ph,wp (C.at ph) nt none a (thenO (fun st'=>WM C nt b Q g st') fun o st'=>Q o g st') st):WM C nt (.seq a b) Q g st:=by
 refine ka3 (kaJ fun ph=>jlZ ?_ (h ph));intro o st' hq;cases o<;>exact hq
theorem jsO{ph:Phase}{o:AOper}{K:St->Prop}(ho:cls o.op≠2)(h:wpOp C nid o K st):wpOp (C.at ph) nid o K st:=by
 obtain⟨dst,op,gd⟩:=o;cases op<;>first|exact absurd rfl ho|exact h
theorem kaP{K:Gh->St->Prop}{o:AOper}{os:List AOper}(hg:o.guard=none)(ho:cls o.op≠2)(h:wpOp C none o (fun st'=>WMo C nt os K g st') st):WMo C nt (o::os) K g st:=
 kbI hg fun ph=>jsO ho h
end
def seqR:ACode->ACode
 |.seq _ b=>b
 |c=>c
theorem jeE{wr:Bool}(hg:h.get i=some (.cells vs wr u)):h.freeze.get i=some (.cells vs false u):=by rw[jdM,hg];rfl
theorem jhc{f:Nat->List AV}{w:Nat}(hf:∀i,(f i).length=w):∀l:List Nat,(l.flatMap f).length=l.length*w
 |[]=>by simp
 |x::l=>by rw[List.flatMap_cons,List.length_append,hf,jhc hf l,List.length_cons,Nat.succ_mul];omega
theorem jjf{f:Nat->List AV}{w:Nat}(hf:∀i,(f i).length=w){N k:Nat}(hk:k<N):∃A B,A.length=k*w/\(∀g:Nat->List AV,(∀i,i≠k->g i=f i)->(List.range N).flatMap g=A++(g k++B)):=by
 refine⟨(List.range k).flatMap f,(List.range' (k+1) (N-k-1)).flatMap f,by rw[jhc hf,List.length_range],fun g hg=>?_⟩;have e:List.range N=List.range k++k::List.range' (k+1) (N-k-1):=by
  rw[List.range_eq_range',List.range_eq_range',show N=k+(N-k-1+1)by omega,<-List.range'_append_1,Nat.zero_add,List.range'_succ];congr 3;omega
 have c1:(List.range k).flatMap g=(List.range k).flatMap f:=by
  rw[List.flatMap_def,List.flatMap_def];congr 1;refine List.map_congr_left fun i hi=>hg i (by have:=List.mem_range.1 hi;omega)
 have c2:(List.range' (k+1) (N-k-1)).flatMap g=(List.range' (k+1) (N-k-1)).flatMap f:=by
  rw[List.flatMap_def,List.flatMap_def];congr 1;refine List.map_congr_left fun i hi=>hg i (by have:=(List.mem_range'_1.1 hi).1;omega)
 rw[e,List.flatMap_append,List.flatMap_cons,c1,c2]
theorem jry{f:Nat->List AV}{w:Nat}(hf:∀i,(f i).length=w){N k:Nat}(hk:k<N):cut ((List.range N).flatMap f) (k*w) w=f k:=by
 obtain⟨A,B,hA,h⟩:=jjf hf hk;rw[h f fun _ _=>rfl];unfold cut;rw[<-hA,List.drop_left,<-hf k,List.take_left]
theorem jmN{f:Nat->List AV}{w:Nat}(hf:∀i,(f i).length=w){N k:Nat}(hk:k<N){xs:List AV}(hx:xs.length=w)(hw:2<=w):splice ((List.range N).flatMap f) (k*w) xs=(List.range N).flatMap fun i=>if i=k then xs else f i:=by
 obtain⟨A,B,hA,h⟩:=jjf hf hk;rw[h f (fun _ _=>rfl),h (fun i=>if i=k then xs else f i) (fun i hi=>if_neg hi),if_pos rfl];have e:splice (A++(f k++B)) (k*w) xs=(A++(f k++B)).take (k*w)++xs++(A++(f k++B)).drop (k*w+xs.length):=by
  unfold splice;split
  ·simp at hx;omega
  ·rfl
 rw[e,<-hA,List.take_left,List.append_assoc,<-List.drop_drop,List.drop_left,hx,<-hf k,List.drop_left]
def fndZ:List AV:=[.int .i64 0,.int .i64 0,.int .i64 0,.int .i64 0,.int .i64 0,.bool false]
def resC(F:Nat->List AV)(N:Nat)(D:List Nat):List AV:=(List.range N).flatMap fun i=>if i∈D then F i else fndZ
theorem jrz{F:Nat->List AV}{N:Nat}:jbk N fndZ=resC F N []:=by
 show(List.replicate N fndZ).flatten=_;unfold resC;rw[List.flatMap_def];congr 1;refine List.ext_getElem (by simp) fun i a b=>by simp
theorem jqn{F:Nat->List AV}(hF:∀i,(F i).length=6){N e:Nat}{D:List Nat}(he:e<N):splice (resC F N D) (e*6) (F e)=resC F N (D++[e]):=by
 unfold resC;rw[jmN (fun i=>by split;exact hF i;rfl) he (hF e) (by decide)];congr 1;funext i;by_cases c:i=e
 ·subst c;simp
 ·simp[c]
theorem jqo{F:Nat->List AV}{N:Nat}{D:List Nat}(h:D.Perm (List.range N)):resC F N D=(List.range N).flatMap F:=by
 unfold resC;rw[List.flatMap_def,List.flatMap_def];congr 1;refine List.map_congr_left fun i hi=>if_pos ((h.mem_iff).2 hi)
theorem jrA{F:Nat->List AV}(hF:∀i,(F i).length=6){N:Nat}{D:List Nat}:(resC F N D).length=N*6:=by
 unfold resC;rw[jhc (w:=6) (fun i=>by split;exact hF i;rfl),List.length_range]
structure AllH (v vp:AV) (s:List (Int×Int)) (p:PlanP) (b sh f:Int) (m i c:Nat) (h:Heap):Prop where
 s:SI h v s
 r:RI h vp p.prns
 g0:∃w u,h.get i=some (.cells [v] w u)
 g1:∃w u,h.get (i+1)=some (.cells [.int .i64 p.d,.int .i64 p.o,.int .i64 p.pb,.int .i64 p.w,.int .i64 p.mn,.int .i64 p.mx,.int .i64 p.nz,vp] w u)
 g2:∃w u,h.get (i+2)=some (.cells [.int .i64 b,.int .i64 sh] w u)
 g3:∃w u,h.get (i+3)=some (.cells [.int .i64 f] w u)
 g4:∃w u,h.get (i+4)=some (.cells [.int .i64 (m:Nat)] w u)
 g5:∃w u,h.get (c+1)=some (.cells [.chan c] w u)
theorem jbn(hs:HSub h h')(g:∃w u,h.get i=some (.cells vs w u)):∃w u,h'.get i=some (.cells vs w u):=by
 obtain⟨w,u,g⟩:=g;exact⟨w,u,(hs.get _ (kab g)).trans g⟩
theorem jdN(g:∃w u,h.get i=some (.cells vs w u)):∃w u,h.freeze.get i=some (.cells vs w u):=by
 obtain⟨w,u,g⟩:=g;exact⟨_,_,jeE g⟩
theorem AllH.mono{sh:Int}{c:Nat}(H:AllH v vp s p b sh f m i c h)(hs:HSub h h'):AllH v vp s p b sh f m i c h':=
 ⟨H.s.mono hs,H.r.mono hs,jbn hs H.g0,jbn hs H.g1,jbn hs H.g2,jbn hs H.g3,jbn hs H.g4,jbn hs H.g5⟩
theorem AllH.frz{sh:Int}{c:Nat}(H:AllH v vp s p b sh f m i c h)(K:jcd v)(L:jcd vp):AllH v vp s p b sh f m i c h.freeze:=
 ⟨kbM H.s K,kbM H.r L,jdN H.g0,jdN H.g1,jdN H.g2,jdN H.g3,jdN H.g4,jdN H.g5⟩
theorem joF{P:Nat->AProm}{V:Nat->AV}(hP:∀i,(P i).blk=none)(hV:∀i n,(P i).av n=V i){ic b dst:Nat}{rem:List Nat}{Hs H h Hc:Heap}{T:Nat->AV}{K:Gh->St->Prop}{vs:List AV}(hic:h.size<=ic)(h1:HSub h Hc)(h2:HSub Hc Hs)(hb:Hs.size<=b)(hbz:b<H.size)(hg:H.get b=some (.cells vs true 0))
  (hK:∀g' H' A e B,rem=A++e::B->H'.get b=some (.cells vs true 0)->H'.size=H.size->(A++B=[]->g'=.idle/\HSub h H')->(A++B≠[]->g'=.busy ic ((A++B).map P) Hs/\H'=H)->
   K g' ⟨upd T dst (V e),H',[]⟩):jnr (.busy ic (rem.map P) Hs) (.chan ic) (some dst) K ⟨T,H,[]⟩:=by
 refine⟨rfl,fun A q B hAB=>?_⟩;obtain⟨A1,e,B1,hr,rfl,rfl,rfl⟩:=jly hAB;have z1:=h1.size;have z2:=h2.size;have el:∀X:Heap,(P e).land X=X:=fun X=>by unfold AProm.land;rw[hP]
 rw[el,el,hV];constructor
 ·intro hne;refine hK (.busy ic (A1.map P++B1.map P) Hs) H A1 e B1 hr hg rfl ?_ ?_
  ·intro h0;exfalso;obtain⟨a,b⟩:=List.append_eq_nil_iff.1 h0;subst a;subst b;exact hne rfl
  ·intro _;exact⟨by rw[List.map_append],rfl⟩
 ·intro h0;have hAB0:A1++B1=[]:=by
   obtain⟨a,b⟩:=List.append_eq_nil_iff.1 h0;rw[List.map_eq_nil_iff.1 a,List.map_eq_nil_iff.1 b];rfl
  have gT:∀i,i<Hs.size->i≠ic->(Hs.thaw ic H).get i=Hs.get i:=fun i hi hne=>by
   show(if i<H.size then(if i<Hs.size then(if i=ic then some .dead else Hs.get i)else _)else none)=_;rw[if_pos (by omega),if_pos hi,if_neg hne]
  refine hK .idle (Hs.thaw ic H) A1 e B1 hr ?_ rfl ?_ ?_
  ·show(if b<H.size then(if b<Hs.size then _ else(H.get b).map fun x=>if x.wr then x else .dead)else none)=_;rw[if_pos hbz,if_neg (by omega),hg];rfl
  ·intro _;refine⟨rfl,⟨by show h.size<=H.size;omega,fun i hi=>?_⟩⟩;rw[gT i (by omega) (by omega),h2.get i (by omega),h1.get i hi]
  ·intro hne;exact absurd hAB0 hne
theorem jrB(hC:Has C TA){v vp:AV}{p:PlanP}{s:List (Int×Int)}{b sh f:Int}{m i:Nat}{H:Heap}{t:Nat->AV}{Q:Out->Gh->St->Prop}(hs:SI H v s)(Ks:jcd v)(R:RI H vp p.prns)(Kp:jcd vp)(A:∀prn∈p.prns,AcOk p s prn)(pk:PlanOk p)(g0:gErr b sh=0)(hf:0<=f/\f<=1048576)(hm:1<=m/\m<=16)
  (a0:∃w u,H.get i=some (.cells [v] w u)) (a1:∃w u,H.get (i+1)=some (.cells [.int .i64 p.d,.int .i64 p.o,.int .i64 p.pb,.int .i64 p.w,.int .i64 p.mn,.int .i64 p.mx,.int .i64 p.nz,vp] w u)) (a2:∃w u,H.get (i+2)=some (.cells [.int .i64 b,.int .i64 sh] w u)) (a3:∃w u,H.get (i+3)=some (.cells [.int .i64 f] w u)) (a4:∃w u,H.get (i+4)=some (.cells [.int .i64 (m:Nat)] w u))
  (e5:t 5=.ptr i 0) (e6:t 6=.ptr (i+1) 0) (e7:t 7=.ptr (i+2) 0) (e8:t 8=.ptr (i+3) 0) (e9:t 9=.ptr (i+4) 0)
  (hfin:∀t' h' w,t' 10=w->t' 11=.int .i64 0->HSub H h'->HI h' w (hitsL p sh s f m p.prns)->Q .ret .idle ⟨t',h',[]⟩):
  WM C 84 (seqR (seqR (seqR B397.code))) Q .idle ⟨t,H,[]⟩:=by
 have Rl:=R.len;have l8:=pk.len;have v1:=R.one;have q7:([.int .i64 p.d,.int .i64 p.o,.int .i64 p.pb,.int .i64 p.w,.int .i64 p.mn,.int .i64 p.mx,.int .i64 p.nz,vp]:List AV)[7]? =some vp:=rfl;simp only[B397,seqR,zB];refine ka3 (ka8 ?_);refine kaP rfl (by decide) ?_;show WMo C 84 _ _ .idle ⟨upd t 41 (.chan H.size),H.push .chan,[]⟩;refine kaP rfl (by decide) ?_;show WMo C 84 _ _ .idle ⟨upd (upd t 41 (.chan H.size)) 13 (.ptr (H.size+1) 0),(H.push .chan).push (.cells [.nilchan] true 0),[]⟩;refine kaP rfl (by decide) ?_;have st1:jec ((H.push .chan).push (.cells [.nilchan] true 0)) 1 (.ptr (H.size+1) 0) (.chan H.size)=some ((H.push .chan).push (.cells [.chan H.size] true 0)):=by
  have g:((H.push .chan).push (.cells [.nilchan] true 0)).get (H.size+1)=some (.cells [.nilchan] true 0):=get_push_eq rfl;simp only[jec,g];rw[if_pos ⟨rfl,by simp,rfl⟩];simp only[AV.cells,splice,List.set_cons_zero];rw[push_put (h:=H.push .chan) (i:=H.size+1) rfl]
 show(match (jec ((H.push .chan).push (.cells [.nilchan] true 0)) 1 (.ptr (H.size+1) 0) (.chan H.size)).map fun h'=>(AV.undef,h')with|some (v,h')=>WMo C 84 _ _ .idle (St.put ⟨upd (upd t 41 (.chan H.size)) 13 (.ptr (H.size+1) 0),h',[]⟩ none v)|none=>False);rw[st1];refine kbj ?_;show WM C 84 _ Q .idle ⟨upd (upd t 41 (.chan H.size)) 13 (.ptr (H.size+1) 0),(H.push .chan).push (.cells [.chan H.size] true 0),[]⟩;have sHc:=(kac H .chan).push (.cells [.chan H.size] true 0);have gic:((H.push .chan).push (.cells [.chan H.size] true 0)).get H.size=some .chan:=by rw[kao,if_neg (by simp),kao,if_pos rfl]
 have AH:AllH v vp s p b sh f m i H.size ((H.push .chan).push (.cells [.chan H.size] true 0)):=⟨hs.mono sHc,R.mono sHc,jbn sHc a0,jbn sHc a1,jbn sHc a2,jbn sHc a3,jbn sHc a4,⟨_,_,get_push_eq rfl⟩⟩;have zc:((H.push .chan).push (.cells [.chan H.size] true 0)).size=H.size+2:=by simp
 generalize hHc:(H.push .chan).push (.cells [.chan H.size] true 0)=Hc at*;obtain⟨w1,u1,g1⟩:=AH.g1;refine ka3 ?_;refine kaG fun ph=>?_;refine zs4 e6 g1 q7 Rl ?_;have hP:∃P:Nat->AProm,P=fun j=>fndP j (hitQ p s f m (p.prns.getD j 0)) (clmQ p sh s f m (p.prns.getD j 0)):=⟨_,rfl⟩;obtain⟨P,hP⟩:=hP;generalize hN:p.prns.length=N at*;refine kaZ ?_;refine kby (fun j g st=>∃k:Nat,k<=N/\j=N-k/\st.m=[]/\st.t 5=.ptr i 0/\st.t 6=.ptr (i+1) 0/\st.t 7=.ptr (i+2) 0/\st.t 8=.ptr (i+3) 0/\st.t 9=.ptr (i+4) 0/\st.t 13=.ptr (H.size+1) 0/\st.t 43=vp/\st.t 44=.int .i64 (N:Nat)/\st.t 45=.int .i64 (k:Nat)/\
  AllH v vp s p b sh f m i H.size st.h/\Hc.size<=st.h.size/\st.h.ok H.size/\(k=0->g=.idle/\st.h=Hc)/\(0<k->∃Hs,g=.busy H.size ((List.range k).map P) Hs/\HSub Hc Hs/\Hs.size<=st.h.size)) (j0:=N)
  ⟨0,by omega,rfl,rfl,e5,e6,e7,e8,e9,rfl,rfl,rfl,rfl,AH,Nat.le_refl _,by simp[Heap.ok,gic],fun _=>⟨rfl,rfl⟩,fun q=>absurd q (Nat.lt_irrefl 0)⟩ ?_
 rintro j g ⟨u,X,mk⟩ ⟨k,hk,hj,hm0,f5,f6,f7,f8,f9,f13,f43,f44,f45,AX,zX,okX,k0,k1⟩;dsimp only at hm0 f5 f6 f7 f8 f9 f13 f43 f44 f45 AX zX okX k0 k1;subst hm0;refine kaG fun ph=>?_;refine zs2 f44 f45 ?_;refine kaG fun ph=>?_;refine zs ?_;refine kag (fun c2=>?_) (fun c2=>?_)
 ·have hk':k<N:=by omega
  have ix:=AX.r.idx (kk:=.i64) (k:=((k:Nat):Int)) ⟨by omega,by omega⟩;rw[Int.toNat_natCast]at ix;have ld:=fun X2 (q:HSub X X2)=>(AX.r.mono q).load (k:=k) (by omega);have rf:=kaf X;refine zs ?_;refine ka3 (kaZ ?_);refine kaG fun ph=>?_;refine zs4 f43 f45 ix ld ?_;refine ka8 (kaP rfl (by decide) ?_);refine zs6 f5 f6 f7 f8 f9 f13 ?_;refine kbU ?_;have hs9:=(kac X (.cells [.int .i64 (k:Nat)] true 0)).push (.cells [.int .i64 (p.prns.getD k 0)] true 0);have g14:((X.push (.cells [.int .i64 (k:Nat)] true 0)).push (.cells [.int .i64 (p.prns.getD k 0)] true 0)).get X.size=some (.cells [.int .i64 (k:Nat)] true 0):=by rw[kao,if_neg (by simp)];exact get_push_eq rfl
  have g15:((X.push (.cells [.int .i64 (k:Nat)] true 0)).push (.cells [.int .i64 (p.prns.getD k 0)] true 0)).get (X.size+1)=some (.cells [.int .i64 (p.prns.getD k 0)] true 0):=get_push_eq rfl;have z9:((X.push (.cells [.int .i64 (k:Nat)] true 0)).push (.cells [.int .i64 (p.prns.getD k 0)] true 0)).size=X.size+2:=by simp
  generalize hX9:(X.push (.cells [.int .i64 (k:Nat)] true 0)).push (.cells [.int .i64 (p.prns.getD k 0)] true 0)=X9 at*;have A9:=AX.mono hs9;have ok9:X9.ok H.size:=by
   have hlt:=kaA okX;simp only[Heap.ok]at okX|-;rw[hs9.get _ hlt];exact okX
  show wpGo C g (.func 406 [] [.ptr i 0,.ptr (i+1) 0,.ptr (X.size+1) 0,.ptr (i+3) 0,.ptr (i+4) 0,.ptr (i+2) 0,.ptr (H.size+1) 0,.ptr X.size 0]) [] none _ _;refine⟨H.size,P k,?_,by rw[hP];exact fndP_ok _ _ _,?_,?_⟩
  ·rcases Nat.eq_zero_or_pos k with q|q
   ·obtain⟨rfl,hHH⟩:=k0 q;have gi:X9.get H.size=Hc.get H.size:=by rw[hs9.get H.size (kaA okX),hHH]
    exact gi.trans gic
   ·obtain⟨Hs,rfl,_⟩:=k1 q;rfl
  ·obtain⟨F1,F2,⟨_,_,F3⟩,⟨_,_,F4⟩,⟨_,_,F5⟩,⟨_,_,F6⟩,⟨_,_,F7⟩,⟨_,_,F8⟩⟩:=A9.frz Ks Kp;rw[hP];exact jsN hC F1 F2 (A _ (jav (by omega))) g0 hf hm F3 F4 (jeE g15) F6 F7 F5 F8 (jeE g14) ((jii _ _).2 ok9)
  ·refine kbj ?_;refine kaJ fun ph=>?_;show wp _ _ _ _ _ ⟨_,X9.freeze,[]⟩;refine zs1 f45 ?_;have zz:(X9.freeze).size=X9.size:=rfl;refine⟨_,by omega,k+1,by omega,rfl,f5,f6,f7,f8,f9,f13,f43,f44,by simp,A9.frz Ks Kp,by omega,(jii _ _).2 ok9,fun q=>absurd q (by omega),fun _=>?_⟩;rcases Nat.eq_zero_or_pos k with q|q
   ·obtain⟨rfl,hHH⟩:=k0 q;subst q;exact⟨X9,by simp[jij],by rw[<-hHH];exact hs9,Nat.le_refl _⟩
   ·obtain⟨Hs,rfl,hHs,hHz⟩:=k1 q;exact⟨Hs,by simp[jij,List.range_succ],hHs,by omega⟩
 ·refine zs ?_;rw[if_pos trivial];obtain rfl:k=N:=by omega
  obtain⟨w2,u2,g2⟩:=AX.g1;refine kaG fun ph=>?_;refine zs4 f6 g2 q7 Rl ?_;have l2:=kab g2;have zHc:=sHc.size;have hF:∃F:Nat->List AV,F=fun j=>[.int .i64 (j:Nat),.int .i64 (hitQ p s f m (p.prns.getD j 0)).1,.int .i64 (hitQ p s f m (p.prns.getD j 0)).2.1,.int .i64 (hitQ p s f m (p.prns.getD j 0)).2.2.1,.int .i64 (hitQ p s f m (p.prns.getD j 0)).2.2.2,.bool (clmQ p sh s f m (p.prns.getD j 0))]:=⟨_,rfl⟩;obtain⟨F,hF⟩:=hF;have F6:∀j,(F j).length=6:=fun j=>by rw[hF];rfl
  have Fe:∀j,F j=[.int .i64 (j:Nat),.int .i64 (hitQ p s f m (p.prns.getD j 0)).1,.int .i64 (hitQ p s f m (p.prns.getD j 0)).2.1,.int .i64 (hitQ p s f m (p.prns.getD j 0)).2.2.1,.int .i64 (hitQ p s f m (p.prns.getD j 0)).2.2.2,.bool (clmQ p sh s f m (p.prns.getD j 0))]:=fun j=>by rw[hF]
  have PF:∀j n,(P j).av n=.agg [.int .i64 (j:Nat),.int .i64 (hitQ p s f m (p.prns.getD j 0)).1,.int .i64 (hitQ p s f m (p.prns.getD j 0)).2.1,.int .i64 (hitQ p s f m (p.prns.getD j 0)).2.2.1,.int .i64 (hitQ p s f m (p.prns.getD j 0)).2.2.2,.bool (clmQ p sh s f m (p.prns.getD j 0))]:=fun j n=>by rw[hP];rfl
  have rz:jbk k [.int .i64 0,.int .i64 0,.int .i64 0,.int .i64 0,.int .i64 0,.bool false]=resC F k []:=jrz;refine ka3 ?_;refine kaG fun ph=>?_;refine zs4 f6 g2 q7 Rl ?_;refine kaZ ?_;refine kby (fun j g st=>∃(D rem:List Nat),(D++rem).Perm (List.range k)/\j=rem.length/\st.m=[]/\st.t 13=.ptr (H.size+1) 0/\st.t 16=.slice X.size 0 k (.known k)/\st.t 58=.int .i64 (k:Nat)/\st.t 59=.int .i64 (D.length:Nat)/\st.h.get X.size=some (.cells (resC F k D) true 0)/\X.size<st.h.size/\
   (rem=[]->g=.idle/\HSub H st.h)/\(rem≠[]->∃Hs,g=.busy H.size (rem.map P) Hs/\HSub Hc Hs/\Hs.size<=X.size/\∃wr u,st.h.get (H.size+1)=some (.cells [.chan H.size] wr u))) (j0:=k)
   ⟨[],List.range k,List.Perm.refl _,by simp,rfl,f13,rfl,rfl,rfl,by rw[<-rz];exact get_push_eq rfl,by simp,fun q=>?_,fun q=>?_⟩ ?_
  ·obtain⟨rfl,hHH⟩:=k0 (by simpa using congrArg List.length q);exact⟨rfl,by rw[hHH];exact sHc.push _⟩
  ·obtain⟨Hs,rfl,hHs,hHz⟩:=k1 (by
    rcases Nat.eq_zero_or_pos k with z|z
    ·subst z;exact absurd rfl q
    ·exact z)
   exact⟨Hs,rfl,hHs,hHz,jbn (kac X _) AX.g5⟩
  rintro j3 g3 ⟨u2,H2,mk2⟩ ⟨D,rem,hperm,hj2,hm2,r13,r16,r58,r59,gb,zb,i0,i1⟩;dsimp only at hm2 r13 r16 r58 r59 gb zb i0 i1;subst hm2;have hlen:=hperm.length_eq;rw[List.length_append,List.length_range]at hlen;refine kaG fun ph=>?_;refine zs2 r58 r59 ?_;refine kaG fun ph=>?_;refine zs ?_;refine kag (fun c3=>?_) (fun c3=>?_)
  ·have hrem:rem≠[]:=by rintro rfl;simp at hlen;omega
   obtain⟨Hs,rfl,hHs,hHz,wr',uu',gc2⟩:=i1 hrem;refine zs ?_;refine ka3 (kaZ ?_);refine ka3 (ka8 ?_);refine kaP rfl (by decide) ?_;refine zs2 r13 gc2 ?_;refine kbH ?_;show jnr (.busy H.size (rem.map P) Hs) (.chan H.size) (some 62) _ ⟨_,H2,[]⟩;refine joF (fun j=>by rw[hP];rfl) PF (h:=H) (Hc:=Hc) (b:=X.size) (Nat.le_refl _) sHc hHs hHz zb gb fun g4 H3 A e B hr gb3 z3 hlast hmore=>?_;have hpe:(D++e::(A++B)).Perm (List.range k):=by
    rw[hr]at hperm;exact(List.Perm.append_left D (List.perm_middle.symm)).trans hperm
   have hek:e<k:=List.mem_range.1 (hpe.subset (by simp));have sp:=jqn F6 (D:=D) hek;rw[Fe e]at sp;have rl:=jrA F6 (N:=k) (D:=D);have sb:=fun hh:Heap=>storeB_agg (h:=hh) (i:=X.size) (n:=6) (o:=e*6) (u:=0) (vs:=resC F k D) (xs:=[.int .i64 (e:Nat),.int .i64 (hitQ p s f m (p.prns.getD e 0)).1,.int .i64 (hitQ p s f m (p.prns.getD e 0)).2.1,.int .i64 (hitQ p s f m (p.prns.getD e 0)).2.2.1,.int .i64 (hitQ p s f m (p.prns.getD e 0)).2.2.2,.bool (clmQ p sh s f m (p.prns.getD e 0))]) rfl (by rw[rl];omega) rfl;rw[sp]at sb;have sb:=fun hh=>sb hh;refine kaP rfl (by decide) ?_
   refine zs ?_;refine kaP rfl (by decide) ?_;refine zs ?_;refine kbj ?_;refine kaJ fun ph=>?_;refine zs3 r16 gb3 sb ?_;have hD1:(D++[e]).length=D.length+1:=by simp
   refine kaJ fun ph=>?_;refine zs1 r59 ?_;refine⟨(A++B).length,by rw[hj2,hr];simp,D++[e],A++B,by rw[List.append_assoc];exact hpe,rfl,r13,r16,r58,by rw[hD1];omega,rfl,by omega,fun q=>?_,fun q=>?_⟩
   ·obtain⟨x1,x2⟩:=hlast q;exact⟨x1,(x2.put (by omega) _).push _⟩
   ·obtain⟨x1,rfl⟩:=hmore q;exact⟨Hs,x1,hHs,hHz,wr',uu',gc2⟩
  ·have hrem:rem=[]:=List.eq_nil_of_length_eq_zero (by omega);subst hrem;obtain⟨rfl,hsub⟩:=i0 rfl;refine zs ?_;rw[if_pos trivial];refine kaJ fun ph=>?_;rw[List.append_nil]at hperm;rw[jqo hperm]at gb;refine zs1 r16 ?_;have tz:hitsL p sh s f m (p.prns.take 0)=[]:=rfl;have ta:p.prns.take k=p.prns:=by rw[<-hN];exact List.take_length
   have rl:=jhc F6 (List.range k);rw[List.length_range]at rl;refine jag (fun j t h'=>∃q:Nat,GrwH H2 h' (t 18) (hitsL p sh s f m (p.prns.take q))/\t 69=.slice X.size 0 k (.known k)/\t 70=.int .i64 (k:Nat)/\t 71=.int .i64 (q:Nat)/\q<=k/\j=k-q) (j0:=k)
    ⟨0,by rw[tz];exact kbK _,rfl,rfl,rfl,by omega,rfl⟩ ?_
   rintro j4 t4 H4 ⟨q,G,x69,x70,x71,hq,hj4⟩;refine zs2 x70 x71 ?_;refine kag (fun c4=>?_) (fun c4=>?_)
   ·have hq':q<k:=by omega
    have gq:=(G.sub.get _ zb).trans gb;have lb:∀{w u},loadB true 6 (q*6) (some (.cells ((List.range k).flatMap F) w u))=some (.agg (F q)):=fun{w u}=>by
     show partA true _ _ _=_;simp only[partA,if_true];rw[if_pos (by rw[rl];omega),jry F6 hq']
    rw[Fe q]at lb;have eL:=joz (p:=p) (sh:=sh) (s:=s) (f:=f) (m:=m) (l:=p.prns) (k:=q) (by omega);have hl:=jrs p sh s f m (p.prns.take q);have tl:(p.prns.take q).length<=8:=by rw[List.length_take];omega
    have zG:=G.sub.size;have eQ:hitQ p s f m (p.prns.getD q 0)=((hitQ p s f m (p.prns.getD q 0)).1,(hitQ p s f m (p.prns.getD q 0)).2.1,(hitQ p s f m (p.prns.getD q 0)).2.2.1,(hitQ p s f m (p.prns.getD q 0)).2.2.2):=rfl;by_cases cq:clmQ p sh s f m (p.prns.getD q 0)=true
    ·rw[if_pos cq]at eL;rw[cq]at lb;have ap:=fun b1 b2=>G.app (a:=(hitQ p s f m (p.prns.getD q 0)).1) (b:=(hitQ p s f m (p.prns.getD q 0)).2.1) (c:=(hitQ p s f m (p.prns.getD q 0)).2.2.1) (d:=(hitQ p s f m (p.prns.getD q 0)).2.2.2) ((H4.push b1).push b2) ((kac H4 b1).push b2) (by omega);have sn:=fun b1 b2=>G.snoc (x:=hitQ p s f m (p.prns.getD q 0)) (H:=(H4.push b1).push b2) ((kac H4 b1).push b2) (by omega);rw[<-eQ,<-eL]at ap;rw[<-eL]at sn;refine zs7 x69 x71 gq @lb @cont_slice @jsH ap ?_;exact⟨_,⟨q+1,sn _ _,x70,by simp,by omega,rfl⟩,by omega⟩
    ·rw[if_neg cq]at eL;rw[Bool.eq_false_iff.2 cq]at lb;refine zs4 x69 x71 gq @lb ?_;exact⟨_,⟨q+1,by rw[eL];exact Grw.mono G (kac _ _),x70,by simp,by omega,rfl⟩,by omega⟩
   ·obtain rfl:q=k:=by omega
    refine zs ?_;rw[ta]at G;exact hfin _ _ _ rfl rfl (hsub.trans G.sub) G.hi
theorem jrC(hC:Has C TA){v vp:AV}{p:PlanP}{s:List (Int×Int)}{b sh f m:Int}{h:Heap}(hs:SI h v s)(Ks:jcd v)(R:RI h vp p.prns)(Kp:jcd vp)(p64:p.ok64)(hf:In64 f)(hm:In64 m):
  ACalls C.main0 397 [v,plA p vp,gA b sh,.int .i64 f,.int .i64 m] h (jqg p b sh s f m h):=by
 have v1:=R.one;have vs1:=hs.one;have vc:=hs.cells;have kp:=fun ph H (q:HSub h H)=>jbG (hC.at ph) (h:=H) (p:=p) ⟨vp,rfl,R.mono q⟩ p64;have kg:=fun ph H=>jc6 (hC.at ph) (h:=H) (b:=b) (s:=sh);have ks:=fun ph H (q:HSub h H)=>jbL (hC.at ph) (h:=H) (hs.mono q);have kl:=fun ph H=>jbV (hC.at ph) (h:=H) (f:=f) (m:=m);have k1:=fun ph H i u (g:H.get i=some (.cells (ints [p.err,gErr b sh,sampE s,placE f m]) true u))=>jcg (hC.at ph) (h:=H) (l:=[p.err,gErr b sh,sampE s,placE f m]) (v:=.slice i 0 4 (.known 4)) (kah g ⟨rfl,by simp⟩ (by simp)) (by simp)
 refine joB (hC.body (by decide) (by rfl:tab 397=some B397)) (Nat.le_of_ble_eq_true rfl) ?_;show WM C _ B397.code _ _ _;simp only[B397,zB];unfold jqg;by_cases c:firstE [p.err,gErr b sh,sampE s,placE f m]=0
 ·rw[c]at k1;have z:=jcq c;have ao:=acOkA (f:=f) (m:=m) p64 (z _ (by simp)) (z (sampE s) (by simp)) (z (placE f m) (by simp));have g0:=z (gErr b sh) (by simp);obtain⟨⟨A,pk,hl2⟩,hf',hm'⟩:=ao;have l8:=pk.len;have ee:jgT p b sh s f m=if fitB s p f m=true then 0 else 16:=by unfold jgT;rw[c,if_neg (by decide)]
  have eM:∃k:Nat,m=(k:Int):=⟨m.toNat,by omega⟩;obtain⟨mn,rfl⟩:=eM;have kF:=fun ph H (q:HSub h H)=>jey (hC.at ph) (p:=p) (h:=H) (hs.mono q) v1 pk.nums hf' hm';rw[ee];clear ee z;unfold plA gA at*;cases hB:fitB s p f mn with
  |false=>
   rw[hB]at kF;simp only[Bool.false_eq_true,if_false,show ¬(16:Int)=0 by decide];refine kaJ fun ph=>?_;refine zs1 vc ?_;refine kaa (kp _ _ zr) (zs ?_);refine kaa (kg _ _) (zs ?_);refine kaa (ks _ _ zr) (zs ?_);refine kaa (kl _ _) (zs1 @Heap.wf ?_);refine kaa (k1 _ _ _ 0 (by refine zs ?_;rfl)) ?_;refine zs ?_;refine kaa (kF _ _ zr) (zs1 @jah.eq_1 ?_);exact⟨_,rfl,zr,rfl,by decide,.inl ⟨rfl,rfl⟩⟩
  | true =>
   rw[hB]at kF;simp only[if_true];refine kaG fun ph=>?_;refine zs1 vc ?_;refine kaG fun ph=>?_;refine zs ?_;refine kaa (kp _ _ zr) (zs ?_);refine kaa (kg _ _) (zs ?_);refine kaa (ks _ _ zr) (zs ?_);refine kaa (kl _ _) (zs1 @Heap.wf ?_);refine kaa (k1 _ _ _ 0 (by refine zs ?_;rfl)) ?_;refine zs ?_;refine kaG fun ph=>?_;refine zs ?_;refine kal (fun H hH=>?_);have g5:H.get h.size=some (.cells [v] true 0):=by rw[hH];exact ze
   have g6:H.get (h.size+1)=some (.cells [.int .i64 p.d,.int .i64 p.o,.int .i64 p.pb,.int .i64 p.w,.int .i64 p.mn,.int .i64 p.mx,.int .i64 p.nz,vp] true 0):=by rw[hH];exact ze
   have g7:H.get (h.size+2)=some (.cells [.int .i64 b,.int .i64 sh] true 0):=by rw[hH];exact ze
   have g8:H.get (h.size+3)=some (.cells [.int .i64 f] true 0):=by rw[hH];exact ze
   have g9:H.get (h.size+4)=some (.cells [.int .i64 (mn:Nat)] true 0):=by rw[hH];exact ze
   have hsH:HSub h H:=by rw[hH];exact zr
   clear hH;refine kaa (kF _ _ hsH) (zs ?_);exact jrB hC (i:=h.size) (hs.mono hsH) Ks (R.mono hsH) Kp A pk g0 hf' (by omega) ⟨_,_,g5⟩ ⟨_,_,g6⟩ ⟨_,_,g7⟩ ⟨_,_,g8⟩ ⟨_,_,g9⟩ rfl rfl rfl rfl rfl (fun t' h' w x10 x11 hs' hw=>⟨rfl,by
    show ∃w',AV.tuple [t' 10,t' 11]=jah w' 0/\_;rw[x10,x11];exact⟨w,rfl,hsH.trans hs',hw⟩⟩)
 ·have ee:jgT p b sh s f m=firstE [p.err,gErr b sh,sampE s,placE f m]:=by unfold jgT;rw[if_pos c]
  rw[ee,if_neg c];clear ee;generalize firstE [p.err,gErr b sh,sampE s,placE f m]=E at*;unfold plA gA at*;refine kaJ fun ph=>?_;refine zs1 vc ?_;refine kaa (kp _ _ zr) (zs ?_);refine kaa (kg _ _) (zs ?_);refine kaa (ks _ _ zr) (zs ?_);refine kaa (kl _ _) (zs1 @Heap.wf ?_);refine kaa (k1 _ _ _ 0 (by refine zs ?_;rfl)) ?_;refine zs2 c @jah.eq_1 ?_;exact⟨_,rfl,zr,rfl,by decide,.inl ⟨rfl,rfl⟩⟩
theorem jrD{l:List (Int×Int)}(h:smE l m=0):l.length<=m/\∀x∈l,inS 1048576 x:=by
 unfold smE at h;split at h
 ·omega
 ·split at h
  ·exact⟨by omega,by assumption⟩
  ·omega
theorem jqp(l:List (Int×Int))(m:Nat):smE l m=0\/smE l m=2\/smE l m=4:=by
 unfold smE;split
 ·simp
 ·split<;>simp
theorem jrE(b:Int):([1,2,4,8,16,32,64].any fun y=>b==y)=decide (jcB b):=by
 have k:([1,2,4,8,16,32,64].any fun y=>b==y)=true↔jcB b:=by unfold jcB;simp
 by_cases c:jcB b
 ·rw[decide_eq_true c];exact k.2 c
 ·rw[decide_eq_false c];exact Bool.eq_false_iff.2 fun q=>c (k.1 q)
theorem joG{l:List (Int×Int)}{k:Nat}(h:k<m):(jdJ l b k++List.replicate (m-k) 0).set k (stepP l b k)=jdJ l b (k+1)++List.replicate (m-(k+1)) 0:=by
 rw[List.set_append_right _ _ (by rw[jcc];omega),jcc,Nat.sub_self,show m-k=m-(k+1)+1 by omega,List.replicate_succ,List.set_cons_zero,jma,List.append_assoc];rfl
theorem jrF:U32 ((j:Int)*(4294967296/b)% 4294967296):=by unfold U32;omega
theorem joH(hC:Has C TA){v:AV}{l:List (Int×Int)}{b:Int}{h:Heap}(hl:SI h v l)(hb:In64 b):
  ACalls C 270 [v,.int .i64 b] h (fun r h'=>∃w,r=jah w (je0 l b)/\HSub h h'/\RI h' w (if je0 l b=0 then jdJ l b b.toNat else[])):=by
 have k1:=fun h1 (q:HSub h h1)=>jod hC (most:=16) (hl.mono q) (by omega);have cc:=jqp l 16;by_cases c:smE l 16=0
 ·have z:=jrD c;rw[c]at k1;have k2:=fun(st:Int) (hst:U32 st) h1 (q:HSub h h1)=>jp9 (st:=st) hC (hl.mono q) z.1 z.2 hst;have k3:=fun p h=>joe (p:=p) (h:=h) hC;have k4:=fun h1 (q:RI h1 (.slice h.size 0 7 (.known 7)) [1,2,4,8,16,32,64])=>jbz hC (x:=b) q;simp only[jrE]at k4;refine zf 270 B270 hC ?_;simp only[B270,zB];refine zs ?_;refine kaa (k1 _ (kaf _)) (zs ?_);refine kaa (k4 _ (kah (get_push_eq rfl) ⟨rfl,by decide⟩ (by decide))) ?_;by_cases c2:jcB b
  ·have e:je0 l b=0:=by unfold je0;rw[if_neg (by omega),if_pos c2]
   have hb2:1<=b/\b<=64:=by unfold jcB at c2;omega
   obtain⟨m,rfl⟩:=Int.eq_ofNat_of_zero_le (show 0<=b by omega);rw[e,if_pos rfl,Int.toNat_natCast];refine zs2 @c2 @jaX ?_;refine jag (fun j t h'=>HSub h h'/\h.size+1<h'.size/\∃k:Nat,h'.get (h.size+1)=some (.cells (ints (jdJ l m k++List.replicate (m-k) 0)) true 0)/\t 0=v/\t 1=.int .i64 (m:Nat)/\t 7=.slice (h.size+1) 0 m (.known m)/\t 21=.int .i64 (m:Nat)/\t 22=.int .i64 (k:Nat)/\k<=m/\j=m-k) (j0:=m)
    ⟨(kac _ _).push _,by simp,0,by refine zs ?_;rfl,rfl,rfl,rfl,rfl,rfl,by omega,rfl⟩ ?_
   rintro j t h1 ⟨s1,hz,k,gb,e0,e1,e7,e21,e22,hk,hj⟩;refine zs2 e21 e22 ?_;refine kag (fun c3=>?_) (fun c3=>?_)
   ·have hk':k<m:=by omega
    have hu:=jrF (j:=k) (b:=(m:Int));have k2:=k2 _ hu h1 s1;have es:stepP l m k=powP (spinK l ((k:Int)*(4294967296/(m:Int))% 4294967296) l.length):=rfl;have sz:=joG (l:=l) (b:=(m:Int)) hk';rw[es]at sz;have q0:(4294967296:Int).tdiv (m:Int)=4294967296/(m:Int):=Int.tdiv_eq_ediv_of_nonneg (by decide);have Q1:0<=4294967296/(m:Int):=Int.ediv_nonneg (by decide) (by omega);have Q2:4294967296/(m:Int)<=4294967296:=Int.ediv_le_self _ (by decide);have kQ:0<=(k:Int)*(4294967296/(m:Int))/\(k:Int)*(4294967296/(m:Int))<=64*4294967296:=⟨Int.mul_nonneg (by omega) Q1,Int.mul_le_mul (by omega) Q2 Q1 (by decide)⟩
    have zl:(jdJ l m k++List.replicate (m-k) 0).length=m:=by simp[jcc];omega
    generalize hQ:4294967296/(m:Int)=Q at*;refine zs7 e0 e1 e7 e22 q0 @hQ @jjH ?_;refine kaa k2 (zs ?_);refine kaa (k3 _ _) (zs7 e0 e1 e7 e21 e22 gb (zI sz zl) ?_);exact⟨_,⟨(zh s1),hz,k+1,rfl,by simp,by omega,rfl⟩,by omega⟩
   ·have ek:k=m:=by omega
    subst ek;rw[Nat.sub_self,List.replicate_zero,List.append_nil]at gb;refine zs1 e7 ?_;exact⟨_,rfl,s1,kah gb ⟨(jcc _ _ _).symm,by omega⟩ (Nat.le_refl _)⟩
  ·have e:je0 l b=3:=by unfold je0;rw[if_neg (by omega),if_neg c2]
   rw[e,if_neg (by decide)];refine zs1 @c2 ?_;exact⟨_,rfl,kac _ _,kaw⟩
 ·have e:je0 l b=smE l 16:=by unfold je0;rw[if_pos c]
  rw[e,if_neg c];generalize smE l 16=e at*;refine zf 270 B270 hC ?_;simp only[B270,zB];refine zs ?_;refine kaa (k1 _ (kaf _)) (zs1 c ?_);exact⟨_,rfl,kaf _,kaw⟩
def winE(s:List (Int×Int))(d o p a many:Int):Int:=manyE (bankErr s d o p a) many 1000
theorem jnt{k L:Nat}(hk:k<=1000)(hL:L<=8184):0<=(k:Int)*(L:Int)/\(k:Int)*(L:Int)<=8184000:=by
 have:k*L<=1000*8184:=Nat.mul_le_mul hk hL;have e:(k:Int)*(L:Int)=((k*L:Nat):Int):=(Int.natCast_mul k L).symm;omega
theorem jik(hC:Has C TA){a L m:Int}{h:Heap}:ACalls C 298 [.int .i64 a,.int .i64 L,.int .i64 m] h (fun r h'=>r=.func 304 [] [.ptr (h.size+2) 0,.ptr h.size 0,.ptr (h.size+1) 0]/\
  h'=((h.push (.cells [.int .i64 a] true 0)).push (.cells [.int .i64 L] true 0)).push (.cells [.int .i64 m] true 0)):=by
 refine zf 298 B298 hC ?_;simp only[B298,zB];exact ze
theorem jil(hC:Has C TA){l bm ba bs m L:Nat}{a:Int}{h:Heap}(hm:m<=1000)(hL:L<=8184)(ha: -10000000<=a/\a<=10000000)(J:Nat->Heap->Prop)(D:Heap->Prop)(h0:J 0 h)
  (hb:∀k h',J k h'->h'.get bm=some (.cells [.int .i64 (m:Nat)] true 0)/\h'.get ba=some (.cells [.int .i64 a] true 0)/\h'.get bs=some (.cells [.int .i64 (L:Nat)] true 0))
  (hy:∀k h',J k h'->k<m->jfF C l [.int .i64 (k:Nat),.int .i64 (a+(k:Nat)*(L:Nat))] h' (fun r h''=>(r=.bool true/\J (k+1) h'')\/(r=.bool false/\D h'')))
  (hd:∀h',J m h'->D h'):ACalls C 304 [.yield l,.ptr bm 0,.ptr ba 0,.ptr bs 0] h (fun _ h'=>D h'):=by
 obtain⟨g0,g1,g2⟩:=hb 0 h h0;refine zf 304 B304 hC ?_;simp only[B304,zB];refine zs1 g0 ?_;refine jag (fun j t h'=>∃k:Nat,J k h'/\t 0=.yield l/\t 2=.ptr ba 0/\t 3=.ptr bs 0/\t 6=.int .i64 (m:Nat)/\t 7=.int .i64 (k:Nat)/\k<=m/\j=m-k) (j0:=m) ⟨0,h0,rfl,rfl,rfl,rfl,rfl,by omega,rfl⟩ ?_;rintro j t h' ⟨k,hJ,e0,e2,e3,e6,e7,hk,hj⟩;obtain⟨g0,g1,g2⟩:=hb k h' hJ;refine zs2 e6 e7 ?_;refine kag (fun c=>?_) (fun c=>?_)
 ·have hk':k<m:=by omega
  have wp:=jnt (k:=k) (by omega) hL;have hy:=hy k h' hJ hk';generalize hkc:(k:Int)*(L:Int)=kc at*;refine zs7 e0 e2 e3 e7 g1 g2 @hkc ?_;refine kaE hy ?_;rintro r h'' (⟨rfl,hJ'⟩|⟨rfl,hD⟩)
  ·refine zs5 e0 e2 e3 e6 e7 ?_;exact⟨_,⟨k+1,hJ',by simp,by omega,rfl⟩,by omega⟩
  ·refine zs ?_;exact hD
 ·have ek:k=m:=by omega
  subst ek;refine zs ?_;exact hd _ hJ
theorem jlz(hC:Has C TA){v:AV}{s:List (Int×Int)}{d o p a many:Int}{h:Heap}(hs:SI h v s)(hd:In64 d)(ho:In64 o)(hp:In64 p)(ha:In64 a)(hm:In64 many):
  ACalls C 279 [v,.int .i64 d,.int .i64 o,.int .i64 p,.int .i64 a,.int .i64 many] h (fun r h'=>∃w,r=jah w (winE s d o p a many)/\HSub h h'/\SI h' w (if winE s d o p a many=0 then bankL s (sampL d p o.toNat) a (sampL d p o.toNat).length many.toNat else[])):=by
 have kM:=jew hC hs hd ho hp ha;have v1:=hs.one;unfold In64 at hm;unfold winE manyE;refine zf 279 B279 hC ?_;simp only[B279,zB];refine zs ?_;refine kad kM ?_;rintro r h1 ⟨s1,x,rfl,g0,g1⟩;by_cases c:bankErr s d o p a=0
 ·have ok:=jeR c;obtain⟨w,rfl,R⟩:=g0 c;have w1:=R.one;have sb:=fun(H:Heap) i=>jeQ (H:=H) (i:=i) (a:=.nilslice) (b:=.nilslice) v1 w1;rw[c,if_neg (by decide)];unfold corA;by_cases c2:many<0\/1000<many
  ·rw[if_pos c2];refine zs2 @corE.eq_1 sb ?_
   (repeat' (first|(refine kag (fun _=>?_) (fun _=>?_))|(refine zs1 @gV_u ?_)))
   all_goals first
    |(exfalso;omega)
    |exact⟨_,rfl,(zh s1),kbO⟩
  ·obtain⟨m,rfl⟩:=Int.eq_ofNat_of_zero_le (show 0<=many by omega);have sl:=jfP ok.2.2.1;have kS:=fun(b:Int) (hb: -100000000<=b/\b<=100000000) h2 (q:HSub h1 h2)=>jfk hC (a:=b) (hs.mono (s1.trans q)) (R.mono q) ok.2.1 (jaW _ _ _) (by omega) hb;have hz:=jbU (p:=(0,0)) (n:=m);simp only at hz;rw[if_neg c2,if_pos rfl,Int.toNat_natCast];generalize sampL d p o.toNat=c at*;unfold corA at kS;refine zs5 @corE.eq_1 sb @gV_u hz @R.len ?_;refine kal (fun H hH=>?_);have N:H.size=h1.size+3:=by rw[hH];exact ze
   have gv:H.get h1.size=some (.cells [v,w] true 0):=by rw[hH];exact ze
   have go:H.get (h1.size+1)=some (.cells (smps (List.replicate m (0,0))) true 0):=by rw[hH];exact ze
   have gs:H.get (h1.size+2)=some (.cells [.slice (h1.size+1) 0 m (.known m)] true 0):=by rw[hH];exact ze
   have hsH:HSub h1 H:=by
    rw[hH];exact zr
   clear hH;refine kaa (jik hC) (zs ?_);refine jb2 (D:=fun h'=>∃R,h'.get (H.size+4)=some (.loop R)/\HSub h1 h'/\h'.get (H.size+3)=some (.defd true)/\H.size+5<=h'.size/\R.state=.ready/\R.pend=none/\
    h'.get (h1.size+2)=some (.cells [.slice (h1.size+1) 0 m (.known m)] true 0)/\h'.get (h1.size+1)=some (.cells (smps (bankL s c a c.length m)) true 0)) ?_ ?_
   ·refine kaq (fun R hR=>?_);show ACalls C 304 [.yield (H.size+4),.ptr (H.size+2) 0,.ptr H.size 0,.ptr (H.size+1) 0] _ _;have rs:R.state=.ready:=by rw[hR]
    have rp:R.pend=none:=by rw[hR]
    have rb:=jdB rs rp;refine jil hC (m:=m) (L:=c.length) (a:=a) (by omega) sl (by omega) (fun k h'=>k<=m/\h'.get (H.size+4)=some (.loop R)/\h'.get (H.size+3)=some (.defd true)/\
     h'.get (H.size+2)=some (.cells [.int .i64 (m:Nat)] true 0)/\h'.get H.size=some (.cells [.int .i64 a] true 0)/\h'.get (H.size+1)=some (.cells [.int .i64 (c.length:Nat)] true 0)/\HSub h1 h'/\H.size+5<=h'.size/\
     h'.get h1.size=some (.cells [v,w] true 0)/\h'.get (h1.size+2)=some (.cells [.slice (h1.size+1) 0 m (.known m)] true 0)/\h'.get (h1.size+1)=some (.cells (smps (bankL s c a c.length k++List.replicate (m-k) (0,0))) true 0)) _ ?_ ?_ ?_ ?_
    ·refine⟨by omega,?_,?_,?_,?_,?_,?_,?_,?_,?_,?_⟩
     ·exact ze
     ·exact ze
     ·exact ze
     ·exact ze
     ·exact ze
     ·exact((((hsH.push _).push _).push _).push _).push _
     ·refine zs ?_;omega
     ·exact ze1 gv
     ·exact ze1 gs
     ·refine zs1 go ?_;rfl
    ·rintro k h' ⟨_,_,_,q0,q1,q2,_⟩;exact⟨q0,q1,q2⟩
    ·rintro k h' ⟨hk,hlp,hd,p0,p1,p2,hsub,hsz,gv,gs,go⟩ hk';have wp:=jnt (k:=k) (by omega) sl;have bs:=jhU (s:=s) (c:=c) (a:=a) (w:=(c.length:Int)) hk';have hwl:(bankL s c a c.length k++List.replicate (m-k) (0,0)).length=m:=by simp[jbi];omega
     have hsl:(smps (bankL s c a c.length k++List.replicate (m-k) (0,0))).length=m*2:=by rw[jby,hwl]
     have hset:=jfg (l:=bankL s c a c.length k++List.replicate (m-k) (0,0)) (k:=k) (p:=sumP s c (a+(k:Nat)*(c.length:Nat))) (by rw[hwl];exact hk');rw[bs]at hset;have kS:=kS (a+(k:Nat)*(c.length:Nat)) (by omega);generalize hkc:a+(k:Int)*(c.length:Int)=kc at*;generalize sumP s c kc=q at*;obtain⟨qx,qy⟩:=q;unfold smp at kS;dsimp only at kS hset;refine jcm (r:=R) (by exact ze1 hlp) rs (by rw[hR];rfl) ?_;simp only[congrArg ALoop.nt hR,congrArg ALoop.t hR,congrArg ALoop.params hR,congrArg ALoop.assign hR,congrArg ALoop.body hR];refine zs4 hlp rs gv gs ?_
     refine kaa (kS _ (hsub.put (by omega) _)) (zs5 hlp gs go hset hsl ?_);exact .inl ⟨by omega,by rw[rb],hd,p0,p1,p2,((hsub.put (by omega) _).put (by omega) _).put (by omega) _,by omega,gv⟩
    ·rintro h' ⟨_,hlp,hd,p0,p1,p2,hsub,hsz,gv,gs,go⟩;rw[Nat.sub_self,List.replicate_zero,List.append_nil]at go;exact⟨R,hlp,hsub,hd,hsz,rs,rp,gs,go⟩
   ·rintro h' ⟨R,hlp,hsub,hd,hsz,hst,hpd,gs,go⟩;refine⟨R,hlp,by rw[hst];decide,?_⟩;rw[hpd];show jcx _ _ .normal _;refine zs3 hd gs go ?_;refine⟨_,rfl,((s1.trans hsub).put (by have:=s1.size;omega) _).put (by have:=s1.size;omega) _,kaQ (wr:=true) (u:=0) ?_ ⟨(jbi _ _ _ _ _).symm,by omega⟩ (Nat.le_refl _)⟩;exact ze1 go
 ·rw[g1 c,if_pos c,if_neg c];unfold corA;generalize bankErr s d o p a=e at*;refine zs2 @corE.eq_1 c ?_;exact⟨_,rfl,(zh s1),kbO⟩
theorem bst_s(l:List Int)(k:Nat):bstK l (k+1)=if l.getD (bstK l k) 0<l.getD k 0 then k else bstK l k:=rfl
theorem jqq(l:List Int):∀k i,i<k->l.getD i 0<=l.getD (bstK l k) 0
 |0,_,h=>absurd h (Nat.not_lt_zero _)
 | k + 1, i, h => by
  rw[bst_s];rcases Nat.lt_or_ge i k with c|c
  ·have:=jqq l k i c;split<;>omega
  ·obtain rfl:i=k:=by omega
   split<;>omega
theorem jlA(l:List Int):∀k i,i<bstK l k->l.getD i 0<l.getD (bstK l k) 0
 |0,i,h=>absurd h (Nat.not_lt_zero _)
 |k+1,i,h=>by
  rw[bst_s]at h|-;by_cases c:l.getD (bstK l k) 0<l.getD k 0
  ·rw[if_pos c]at h|-;have:=jqq l k i h;omega
  ·rw[if_neg c]at h|-;exact jlA l k i h
theorem jsP{k:Nat}(h0:0<k)(hk:k<=l.length):idxI (fun y=>l.getD (bstK l k) 0==y) l=(bstK l k:Nat):=by
 have hb:bstK l k<l.length:=by rcases jj6 l k with q|q<;>omega
 have hf:=jlA l k;generalize bstK l k=b at*;have q:=jgi (p:=fun y=>l.getD b 0==y) hb (by
  rw[List.any_eq_false];intro x hx;obtain⟨i,hi,rfl⟩:=List.getElem_of_mem hx;rw[List.length_take]at hi;have:=hf i (by omega);rw[List.getElem_take];have e:l.getD i 0=l[i]:=by simp[show i<l.length by omega]
  rw[e]at this;simp only[beq_iff_eq];omega) (by simp)
 unfold idxI;rw[if_pos q.1,q.2]
def jdr(p:PlanP)(s:List (Int×Int))(prn f m b:Int):Int:=if firstE [p.err,codeE p prn,sampE s,placE f m]≠0 then firstE [p.err,codeE p prn,sampE s,placE f m]else if ¬jcB b then 3 else if s.length<f+m*p.size then 16 else 0
def stpL(p:PlanP)(s:List (Int×Int))(prn f m b:Int):List Int:=jdJ (bankL s (sampL p.d prn p.o.toNat) f (sampL p.d prn p.o.toNat).length m.toNat) b b.toNat
def jim(p:PlanP)(s:List (Int×Int))(prn f m b:Int):AV:=.tuple [.int .i64 (if jdr p s prn f m b=0 then(bstK (stpL p s prn f m b) b.toNat:Nat)else 0),.int .i64 (jdr p s prn f m b)]
theorem AcOk.win0{m:Int}(A:AcOk p s prn)(hf:0<=f/\f<=1048576)(hm:1<=m/\m<=16):winE s p.d p.o prn f m=0:=by
 unfold winE manyE;rw[A.bank (by omega),if_neg (by decide),if_neg (by omega)]
theorem AcOk.stp0{m w:Int}(A:AcOk p s prn)(hm:1<=m/\m<=16)(hb:jcB b):je0 (bankL s (sampL p.d prn p.o.toNat) f w m.toNat) b=0:=by
 have e:smE (bankL s (sampL p.d prn p.o.toNat) f w m.toNat) 16=0:=by
  unfold smE;rw[if_neg (by rw[jbi];omega),if_pos];intro x hx;unfold bankL at hx;obtain⟨j,_,rfl⟩:=List.mem_map.1 hx;exact jg7 (A.win _) (by decide)
 unfold je0;rw[e,if_neg (by decide),if_pos hb]
theorem jrG(hC:Has C TA)(hl:RI h v l)(h0:0<l.length):ACalls C 407 [v] h (fun r h'=>r=.int .i64 (l.getD (bstK l l.length) 0)/\h'=h):=by
 have hlt:=hl.lt;have l0:=hl.load h0;have ix:=hl.idx (kk:=.i64) (k:=0) ⟨by omega,by omega⟩;have b1:bstK l 1=0:=by rw[bst_s];split<;>rfl
 have bs:=bst_s l;have bl:=jj6 l;generalize bstK l=BK at*;refine zf 407 B407 hC ?_;simp only[B407,zB];refine zs3 @hl.len ix l0 ?_;refine jag (fun j t h'=>h'=h/\t 0=v/\∃k:Nat,t 3=.int .i64 (l.getD (BK k) 0)/\t 4=.int .i64 (k:Nat)/\1<=k/\k<=l.length/\j=l.length-k) (j0:=l.length-1)
  ⟨rfl,rfl,1,by rw[b1];rfl,rfl,by omega,by omega,rfl⟩ ?_
 rintro j t h' ⟨rfl,e0,k,e3,e4,hk1,hk,hj⟩;refine zs3 e0 e4 @hl.len ?_;refine kag (fun c=>?_) (fun c=>?_)
 ·have hk':k<l.length:=by omega
  have ld:=hl.load hk';have bsk:=bs k;refine zs5 e0 e3 e4 @hl.idx ld ?_;refine⟨_,⟨k+1,?_,by simp,by omega,by omega,rfl⟩,by omega⟩;rw[bsk];split<;>omega
 ·obtain rfl:k=l.length:=by omega
  exact ze1 e3
theorem joI(hC:Has C TA){v vp:AV}{p:PlanP}{s:List (Int×Int)}{prn f pw m b:Int}{h:Heap}(hs:SI h v s)(R:RI h vp p.prns)(p64:p.ok64)(hf:In64 f)(hm:In64 m)(hb:In64 b):
  ACalls C 401 [v,plA p vp,hitA prn f pw m,.int .i64 b] h (fun r h'=>r=jim p s prn f m b/\HSub h h'):=by
 have v1:=R.one;have kp:=fun H (q:HSub h H)=>jbG hC (h:=H) (p:=p) ⟨vp,rfl,R.mono q⟩ p64;have kc:=fun H (q:HSub h H)=>jdh hC (h:=H) (p:=p) (prn:=prn) (R.mono q);have ks:=fun H (q:HSub h H)=>jbL hC (h:=H) (hs.mono q);have kl:=fun H=>jbV hC (h:=H) (f:=f) (m:=m);have k1:=fun H i u (g:H.get i=some (.cells (ints [p.err,codeE p prn,sampE s,placE f m]) true u))=>jcg hC (h:=H) (l:=[p.err,codeE p prn,sampE s,placE f m]) (v:=.slice i 0 4 (.known 4)) (kah g ⟨rfl,by simp⟩ (by simp)) (by simp);have kb:=fun H i u (g:H.get i=some (.cells (ints [1,2,4,8,16,32,64]) true u))=>jbz hC (h:=H) (x:=b) (l:=[1,2,4,8,16,32,64]) (v:=.slice i 0 7 (.known 7)) (kah g ⟨rfl,by simp⟩ (by simp))
 have eb:([1,2,4,8,16,32,64].any fun y=>b==y)=decide (jcB b):=by
  rw[Bool.eq_iff_iff,decide_eq_true_eq];simp[jcB]
 rw[eb]at kb;clear eb;unfold jim;by_cases c:firstE [p.err,codeE p prn,sampE s,placE f m]=0
 ·rw[c]at k1;have z:=jcq c;have ao:=jic (f:=f) (m:=m) p64 (z _ (by simp)) (z (codeE p prn) (by simp)) (z (sampE s) (by simp)) (z (placE f m) (by simp));obtain⟨A,hf',hm'⟩:=ao;have sz:=jaE A.ok.nums;have hl2:=A.len;have sl:=hs.len;have kP:=fun H=>jcu hC (p:=p) (vp:=vp) (h:=H) v1 A.ok.nums;have kW:=fun H (q:HSub h H)=>jlz hC (h:=H) (a:=f) (many:=m) (hs.mono q) A.p64.1 A.p64.2.1 (A.p64.2.2.2.2.2.2.2 _ A.hin) hf hm;rw[A.win0 hf' hm',if_pos rfl]at kW;have e0:jdr p s prn f m b=if ¬jcB b then 3 else if s.length<f+m*p.size then 16 else 0:=by unfold jdr;rw[c,if_neg (by decide)]
  have m0:0<=m*p.size:=Int.mul_nonneg (by omega) (by omega);have m1:m*p.size<=16*8184:=Int.mul_le_mul hm'.2 sz.2.1 (by omega) (by omega);by_cases cb:jcB b
  ·have kS:=fun w H (S:SI H w (bankL s (sampL p.d prn p.o.toNat) f (sampL p.d prn p.o.toNat).length m.toNat))=>joH hC (h:=H) S hb;rw[A.stp0 hm' cb,if_pos rfl]at kS;have b0:0<b:=by unfold jcB at cb;omega
   have ll:(stpL p s prn f m b).length=b.toNat:=jcc _ _ _;have es:jdJ (bankL s (sampL p.d prn p.o.toNat) f (sampL p.d prn p.o.toNat).length m.toNat) b b.toNat=stpL p s prn f m b:=rfl;rw[es]at kS;have bi:=jsP (l:=stpL p s prn f m b) (k:=b.toNat) (by omega) (by omega);generalize stpL p s prn f m b=L at*;generalize bankL s (sampL p.d prn p.o.toNat) f (sampL p.d prn p.o.toNat).length m.toNat=BL at*;have kM:=fun w H (S:RI H w L)=>jrG hC (h:=H) S (by omega);rw[ll]at kM;have kI:=fun w H (S:RI H w L)=>ji3 hC (h:=H) (x:=L.getD (bstK L b.toNat) 0) S;rw[bi]at kI
   rw[decide_eq_true cb]at kb;rw[if_neg (by simpa using cb)]at e0;generalize hms:m*p.size=ms at*;generalize L.getD (bstK L b.toNat) 0=M at*;generalize bstK L b.toNat=BB at*;unfold plA hitA at*;by_cases cs:(s.length:Int)<f+ms
   ·rw[if_pos cs]at e0;rw[e0,if_neg (by decide)];refine zf 401 B401 hC ?_;simp only[B401,zB];refine zs ?_;refine kaa (kp _ zr) (zs ?_);refine kaa (kc _ zr) (zs ?_);refine kaa (ks _ zr) (zs ?_);refine kaa (kl _) (zs1 @Heap.wf ?_);refine kaa (k1 _ _ 0 (by refine zs ?_;rfl)) ?_;refine zs ?_;refine kaa (kb _ _ 0 (by refine zs ?_;rfl)) ?_;refine zs1 sl ?_;refine kaa (kP _) (zs3 @hms sl cs ?_);exact zr
   ·rw[if_neg cs]at e0;rw[e0,if_pos rfl];refine zf 401 B401 hC ?_;simp only[B401,zB];refine zs ?_;refine kaa (kp _ zr) (zs ?_);refine kaa (kc _ zr) (zs ?_);refine kaa (ks _ zr) (zs ?_);refine kaa (kl _) (zs1 @Heap.wf ?_);refine kaa (k1 _ _ 0 (by refine zs ?_;rfl)) ?_;refine zs ?_;refine kaa (kb _ _ 0 (by refine zs ?_;rfl)) ?_;refine zs1 sl ?_;refine kaa (kP _) (zs3 @hms sl cs ?_);refine kad (kW _ zr) ?_;rintro r h1 ⟨w1,rfl,s1,Q1⟩;have t1:=HSub.trans (show HSub h _ from zr) s1;refine zs1 @jah.eq_1 ?_;refine kad (kS _ _ Q1) ?_;rintro r h2 ⟨w2,rfl,s2,Q2⟩
    have t2:=t1.trans s2;refine zs1 @jah.eq_1 ?_;refine kaa (kM _ _ Q2) (zs ?_);refine kaa (kI _ _ Q2) (zs ?_);exact t2
  ·rw[decide_eq_false cb]at kb;rw[if_pos cb]at e0;rw[e0,if_neg (by decide)];unfold plA hitA at*;refine zf 401 B401 hC ?_;simp only[B401,zB];refine zs ?_;refine kaa (kp _ zr) (zs ?_);refine kaa (kc _ zr) (zs ?_);refine kaa (ks _ zr) (zs ?_);refine kaa (kl _) (zs1 @Heap.wf ?_);refine kaa (k1 _ _ 0 (by refine zs ?_;rfl)) ?_;refine zs ?_;refine kaa (kb _ _ 0 (by refine zs ?_;rfl)) ?_;refine zs ?_;exact zr
 ·have ee:jdr p s prn f m b=firstE [p.err,codeE p prn,sampE s,placE f m]:=by unfold jdr;rw[if_pos c]
  rw[ee,if_neg c];clear ee;generalize firstE [p.err,codeE p prn,sampE s,placE f m]=E at*;unfold plA hitA at*;refine zf 401 B401 hC ?_;simp only[B401,zB];refine zs ?_;refine kaa (kp _ zr) (zs ?_);refine kaa (kc _ zr) (zs ?_);refine kaa (ks _ zr) (zs ?_);refine kaa (kl _) (zs1 @Heap.wf ?_);refine kaa (k1 _ _ 0 (by refine zs ?_;rfl)) ?_;refine zs1 c ?_;exact zr
def Z0:List (Int×Int):=List.replicate 248 (0,0)
theorem jjg:Z0.length=248:=List.length_replicate
theorem Z0_at(i:Int):atP Z0 i=(0,0):=by
 unfold atP;split
 ·rfl
 ·rw[List.getD_eq_getElem?_getD];unfold Z0;rw[List.getElem?_replicate];split<;>rfl
theorem jrZ(c:List Int)(a:Int):sumP Z0 c a=(0,0):=by
 unfold sumP;have key:∀k,sumK Z0 c a k=(0,0):=by
  intro k
  induction k with
  |zero=>rfl
  |succ k ih=>
   unfold sumK;rw[ih,Z0_at];simp[mulP,addP]
 exact key _
theorem Z0_wp(c:List Int)(a:Int):wpI Z0 c a=0:=by unfold wpI;rw[jrZ];rfl
theorem Z0_pw(c:List Int)(a w:Int):∀k,pwK Z0 c a w k=0
 |0=>rfl
 |k+1=>by unfold pwK;rw[Z0_pw c a w k,Z0_wp];rfl
theorem jqr(f m:Int):scnI P15 Z0 1 f m=List.replicate 62 0:=by
 unfold scnI scanL;rw[show P15.size.toNat=62 by rw[jfq];rfl];refine List.ext_getElem (by simp) fun i a b=>?_;rw[List.getElem_map,Z0_pw,List.getElem_replicate]
theorem jki(n i:Nat):(List.replicate n (0:Int)).getD i 0=0:=by
 rw[List.getD_eq_getElem?_getD,List.getElem?_replicate];split<;>rfl
theorem jkj(n:Nat):∀k,bstK (List.replicate n 0) k=0
 |0=>rfl
 |k+1=>by rw[bst_s,jki,jki,if_neg (by decide),jkj n k]
theorem jqs{t m:Int}(hm:0<=m):claimB t 0 m=false:=by
 unfold claimB;rw[decide_eq_false_iff_not];have h:0<=t*t:=by
  rcases Int.lt_or_le t 0 with q|q
  ·have:=Int.mul_nonneg (show 0<= -t by omega) (show 0<= -t by omega)
   rwa [Int.neg_mul_neg]at this
  ·exact Int.mul_nonneg q q
 have:=Int.mul_nonneg h hm;omega
theorem jr0(f m:Int):hitQ P15 Z0 f m 1=(1,f,0,m):=by
 unfold hitQ;rw[jqr,jkj,jki];simp
theorem jsQ:sampE Z0=0:=by
 unfold sampE;rw[jjg,if_neg (by decide),if_pos];intro x hx;rw[List.eq_of_mem_replicate hx];decide
theorem jfY(b sh prn f m:Int)(h0:gErr b sh=0)(h1:codeE P15 prn=0):firstE [P15.err,gErr b sh,codeE P15 prn,sampE Z0,placE f m]=placE f m/\firstE [P15.err,gErr b sh,sampE Z0,placE f m]=placE f m/\firstE [P15.err,codeE P15 prn,sampE Z0,placE f m]=placE f m:=by
 rw[jrW,jsQ,h0,h1];unfold placE;split<;>exact⟨rfl,rfl,rfl⟩
theorem jnu:jdj P15 8 5 Z0 1 0 3=.tuple [hitA 1 0 0 3,.bool false,.int .i64 0]/\jdj P15 8 5 Z0 1 2 3=.tuple [hitA 0 0 0 0,.bool false,.int .i64 16]/\jdj P15 8 5 Z0 1 0 17=.tuple [hitA 0 0 0 0,.bool false,.int .i64 2]/\jdj P15 8 5 Z0 1 (-1) 1=.tuple [hitA 0 0 0 0,.bool false,.int .i64 2]:=by
 have f:=fun f m=>(jfY 8 5 1 f m rfl rfl).1;have e:∀g m:Int,jdi P15 8 5 Z0 1 g m=if placE g m≠0 then placE g m else if fitB Z0 P15 g m=true then 0 else 16:=fun g m=>by unfold jdi;rw[f]
 have fb:∀g m:Int,fitB Z0 P15 g m=decide (g+62-1+m*62<=248):=fun g m=>by unfold fitB;rw[jfq,jjg];rfl
 have i3:=jr0 0 3;refine⟨?_,?_,?_,?_⟩
 ·have e0:jdi P15 8 5 Z0 1 0 3=0:=by rw[e,fb];decide
  have hi:hitI P15 Z0 1 0 3=hitA 1 0 0 3:=by rw[jsI,i3];rfl
  have pw:(scnI P15 Z0 1 0 3).getD (bstK (scnI P15 Z0 1 0 3) P15.size.toNat) 0=0:=by rw[jqr,jkj,jki]
  unfold jdj;rw[if_pos e0,hi,pw,jqs (by decide)]
 ·have e0:jdi P15 8 5 Z0 1 2 3=16:=by rw[e,fb];decide
  unfold jdj;rw[e0];rfl
 ·have e0:jdi P15 8 5 Z0 1 0 17=2:=by rw[e];decide
  unfold jdj;rw[e0];rfl
 ·have e0:jdi P15 8 5 Z0 1 (-1) 1=2:=by rw[e];decide
  unfold jdj;rw[e0];rfl
theorem jr1:jgT P15 8 5 Z0 0 2=0/\hitsL P15 5 Z0 0 2 P15.prns=[]:=by
 constructor
 ·unfold jgT;rw[(jfY 8 5 1 0 2 rfl rfl).2.1];have fb:fitB Z0 P15 0 2=true:=by unfold fitB;rw[jfq,jjg];decide
  rw[fb];rfl
 ·have c:clmQ P15 5 Z0 0 2 1=false:=by
   unfold clmQ;rw[jr0];exact jqs (by decide)
  show hitsL P15 5 Z0 0 2 [1]=[];unfold hitsL;simp[c]
theorem jsR:jif P15 8 5 Z0 1 0 3 2=.tuple [.int .i64 0,.int .i64 0]:=by
 have e0:jdq P15 8 5 Z0 1 0 3 2=0:=by
  unfold jdq;rw[(jfY 8 5 1 0 3 rfl rfl).1];decide
 have cw:∀a,clmW P15 5 1 Z0 a=false:=fun a=>by unfold clmW;rw[Z0_wp];exact jqs (by decide)
 have cf:∀x j,cfmK P15 5 1 Z0 x j=false:=by
  intro x j
  induction j with
  |zero=>rfl
  |succ j ih=>rw[cfm_s,ih,cw,Bool.and_false];rfl
 have cn:∀k,cntK P15 5 1 Z0 0 3 k=0:=by
  intro k
  induction k with
  |zero=>rfl
  |succ k ih=>unfold cntK;rw[ih,cf];rfl
 unfold jif;rw[e0,if_pos rfl,cn];rfl
theorem jqt:jim P15 Z0 1 0 3 8=.tuple [.int .i64 0,.int .i64 0]/\jdr P15 Z0 1 0 3 3=3:=by
 have e:∀b,jdr P15 Z0 1 0 3 b=if ¬jcB b then 3 else 0:=fun b=>by
  unfold jdr;rw[(jfY 8 5 1 0 3 rfl rfl).2.2,jfq];rw[if_neg (by decide)];split
  ·rfl
  ·rw[jjg,if_neg (by decide)]
 refine⟨?_,by rw[e];decide⟩;have sp:∀(l:List (Int×Int)),(∀i,l.getD i (0,0)=(0,0))->∀st k,spinK l st k=(0,0):=by
  intro l hl st k
  induction k with
  |zero=>rfl
  |succ k ih=>
   unfold spinK;rw[ih,hl];simp[mixP,addP]
 have bl:∀i,(bankL Z0 (sampL P15.d 1 P15.o.toNat) 0 (sampL P15.d 1 P15.o.toNat).length (3:Int).toNat).getD i (0,0)=(0,0):=fun i=>by
  unfold bankL;rw[List.getD_eq_getElem?_getD,List.getElem?_map];cases (List.range (3:Int).toNat)[i]? with
  |none=>rfl
  |some j=>simp[jrZ]
 have st:stpL P15 Z0 1 0 3 8=List.replicate 8 0:=by
  unfold stpL jdJ;refine List.ext_getElem (by simp) fun i a b=>?_;rw[List.getElem_map,List.getElem_replicate];unfold stepP;rw[sp _ bl];rfl
 have e8:jdr P15 Z0 1 0 3 8=0:=by rw[e];decide
 unfold jim;rw[e8,if_pos rfl,st,jkj];rfl
theorem jsS:jfp P15 Z0 1 0 2=0:=by
 unfold jfp;rw[(jfY 8 5 1 0 2 rfl rfl).2.2];have fb:fitB Z0 P15 0 2=true:=by unfold fitB;rw[jfq,jjg];decide
 rw[fb];rfl
theorem jrH(hC:Has C TA):ACalls C 373 [] h (fun r h'=>HSub h h'/\∃vp,r=plA P15 vp/\RI h' vp P15.prns/\jcd vp):=by
 refine zf 373 B373 hC ?_;simp only[B373,zB];refine zs ?_;refine⟨zr,_,rfl,kah (wr:=true) (u:=0) (l:=[1]) (by refine zs ?_;rfl) ⟨rfl,by decide⟩ (by decide),.inr ⟨_,_,_,_,rfl⟩⟩
theorem jgy(hC:Has C TA):ACalls C.main0 393 [] h (fun r h'=>r=.bool true/\HSub h h'):=by
 have hM:Has C.main0 TA:=hC.main0;have kp:=fun H=>jrH hM (h:=H);have kg:=fun H=>jgS hM (h:=H);have kw:=fun H=>jkh hM (h:=H);have ks:=fun v vp H (S:SI H v Z0) (R:RI H vp P15.prns)=>jlt hM (prn:=1) (f:=0) (m:=2) S R jgQ (by unfold In64;omega) (by unfold In64;omega);have ka:=fun f m v vp H (S:SI H v Z0) (R:RI H vp P15.prns) (hf:In64 f) (hm:In64 m)=>jgP hM (b:=8) (sh:=5) (prn:=1) (f:=f) (m:=m) S R jgQ hf hm;have k1:=fun v vp H S R=>ka 0 3 v vp H S R (by unfold In64;omega) (by unfold In64;omega);have k2:=fun v vp H S R=>ka 2 3 v vp H S R (by unfold In64;omega) (by unfold In64;omega)
 have k3:=fun v vp H S R=>ka 0 17 v vp H S R (by unfold In64;omega) (by unfold In64;omega);have k4:=fun v vp H S R=>ka (-1) 1 v vp H S R (by unfold In64;omega) (by unfold In64;omega);rw[jnu.1]at k1;rw[jnu.2.1]at k2;rw[jnu.2.2.1]at k3;rw[jnu.2.2.2]at k4;have kl:=fun v vp H (S:SI H v Z0) (Ks:jcd v) (R:RI H vp P15.prns) (Kp:jcd vp)=>jrC hC (b:=8) (sh:=5) (f:=0) (m:=2) S Ks R Kp jgQ (by unfold In64;omega) (by unfold In64;omega);have kc:=fun v vp H (S:SI H v Z0) (R:RI H vp P15.prns)=>jlv hM (b:=8) (sh:=5) (prn:=1) (f:=0) (pw:=0) (m:=3) (n:=2) S R jgQ (by unfold In64;omega) (by unfold In64;omega) (by unfold In64;omega)
 have kt:=fun b v vp H (S:SI H v Z0) (R:RI H vp P15.prns) (hb:In64 b)=>joI hM (prn:=1) (f:=0) (pw:=0) (m:=3) (b:=b) S R jgQ (by unfold In64;omega) (by unfold In64;omega) hb;have t1:=fun v vp H S R=>kt 8 v vp H S R (by unfold In64;omega);have t2:=fun v vp H S R=>kt 3 v vp H S R (by unfold In64;omega);rw[jqt.1]at t1;unfold jim at t2;rw[jqt.2,if_neg (by decide)]at t2;rw[jsR]at kc;rw[jsS,if_pos rfl,jqr]at ks;unfold jqg at kl;rw[jr1.1,if_pos rfl,jr1.2]at kl;have kq:=fun va vb H (A:RI H va (List.replicate 62 0)) (B:RI H vb (List.replicate 62 0))=>ji1 hM A B
 rw[decide_eq_true rfl]at kq;have hz:=jbU (p:=(0,0)) (n:=248);simp only at hz;have hz2:jbk 62 [.int .i64 0]=ints (List.replicate 62 0):=rfl;have ez:List.replicate 248 ((0:Int),(0:Int))=Z0:=rfl;rw[ez]at hz;have zl:=jjg;have zlt:(248:Nat)=Z0.length/\248<9223372036854775808:=⟨zl.symm,by decide⟩;generalize Z0=Z at*;clear ka kt ez zl;unfold hitA gA at*;refine jd1 (hM.body (by decide) (by rfl:tab 393=some B393)) (Nat.le_of_ble_eq_true rfl) ?_;show wp C.main0 _ none B393.code _ _;simp only[B393,zB];have lenZ:=zlt.1;refine zs1 hz ?_;have S0:SI (h.push (.cells (smps Z) true 0)) (.slice h.size 0 248 (.known 248)) Z:=kaQ (get_push_eq rfl) zlt (Nat.le_refl _)
 have sB:=kac h (.cells (smps Z) true 0);generalize h.push (.cells (smps Z) true 0)=B at*;have Ks:jcd (.slice h.size 0 248 (.known 248)):=.inr ⟨_,_,_,_,rfl⟩;generalize AV.slice h.size 0 248 (.known 248)=v at*;have v1:=S0.one;refine kad (kp _) ?_;rintro r h1 ⟨s1,p1,rfl,R1,K1⟩;have u1:=s1;refine zs1 @plA.eq_1 ?_;refine kad (ks _ _ _ (S0.mono u1) R1) ?_;rintro r h2 ⟨w2,rfl,s2,Q2⟩;have u2:=u1.trans s2;refine zs1 @jah.eq_1 ?_;refine kad (kp _) ?_;rintro r h3 ⟨s3,p3,rfl,R3,K3⟩;have u3:=u2.trans s3;refine zs ?_;refine kaa (kg _) (zs1 @plA.eq_1 ?_);refine kad (k1 _ _ _ (S0.mono u3) R3) ?_
 rintro r h4 ⟨rfl,s4⟩;have u4:=(u3.trans s4).push (.cells [.int .i64 1,.int .i64 0,.int .i64 0,.int .i64 3] true 0);have g4:=get_push_eq (h:=h4) (b:=.cells [.int .i64 1,.int .i64 0,.int .i64 0,.int .i64 3] true 0) (i:=h4.size) rfl;have q2:=(Q2.mono s3).mono s4|>.mono (kac h4 (.cells [.int .i64 1,.int .i64 0,.int .i64 0,.int .i64 3] true 0));refine zs ?_;refine kal (fun H4 hH4=>?_);rw[<-hH4]at u4 g4 q2;have l4:=kab g4;refine kad (kp _) ?_;rintro r h5 ⟨s5,p5,rfl,R5,K5⟩;refine zs ?_;refine kaa (kg _) (zs1 @plA.eq_1 ?_);refine kad (k2 _ _ _ (S0.mono (u4.trans s5)) R5) ?_
 rintro r h6 ⟨rfl,s6⟩;have w6:=(s5.trans s6).push (.cells [.int .i64 0,.int .i64 0,.int .i64 0,.int .i64 0] true 0);refine zs ?_;refine kad (kp _) ?_;rintro r h7 ⟨s7,p7,rfl,R7,K7⟩;refine zs ?_;refine kaa (kg _) (zs1 @plA.eq_1 ?_);refine kad (k3 _ _ _ (S0.mono (u4.trans (w6.trans s7))) R7) ?_;rintro r h8 ⟨rfl,s8⟩;have w8:=((w6.trans s7).trans s8).push (.cells [.int .i64 0,.int .i64 0,.int .i64 0,.int .i64 0] true 0);refine zs ?_;refine kad (kp _) ?_;rintro r h9 ⟨s9,p9,rfl,R9,K9⟩;refine zs ?_;refine kaa (kg _) (zs1 @plA.eq_1 ?_);refine kad (k4 _ _ _ (S0.mono (u4.trans (w8.trans s9))) R9) ?_
 rintro r ha ⟨rfl,sa⟩;have wa:=(((w8.trans s9).trans sa).push (.cells [.int .i64 0,.int .i64 0,.int .i64 0,.int .i64 0] true 0)).push (.cells (ints (List.replicate 62 0)) true 0);have ga:=(wa.get _ l4).trans g4;have Rq:RI (((ha.push (.cells [.int .i64 0,.int .i64 0,.int .i64 0,.int .i64 0] true 0))).push (.cells (ints (List.replicate 62 0)) true 0)) (.slice (ha.size+1) 0 62 (.known 62)) (List.replicate 62 0):=kah (get_push_eq (by simp)) ⟨by simp,by decide⟩ (Nat.le_refl _);have eq1:eqsA false [(0,false),(1,false),(2,false),(3,false)] (.agg [.int .i64 1,.int .i64 0,.int .i64 0,.int .i64 3]) (.agg [.int .i64 1,.int .i64 0,.int .i64 0,.int .i64 3])=some (.bool true):=eqs4
 refine zs1 hz2 ?_;refine kaa (kq _ _ _ (q2.mono wa) Rq) ?_;have lx:=kab ga;refine zs2 ga eq1 ?_;refine kad (kp _) ?_;rintro r hb ⟨sb,pb,rfl,Rb,Kb⟩;refine zs ?_;refine kaa (kg _) (zs1 @plA.eq_1 ?_);refine kad (kl _ _ _ (S0.mono (u4.trans (wa.trans sb))) Ks Rb Kb) ?_;rintro r hc ⟨wl,rfl,sc,Ql⟩;have wc:=(wa.trans sb).trans sc;have gc:=(wc.get _ l4).trans g4;have Qn:=SL.len Ql;refine zs2 @jah.eq_1 gc ?_;refine kad (kp _) ?_;rintro r hd ⟨sd,pd,rfl,Rd,Kd⟩;have yc:=kab gc;have gd:hd.get h4.size=hc.get h4.size:=sd.get h4.size yc;refine zs2 gd gc ?_;refine kaa (kg _) ?_
 refine zs1 @plA.eq_1 ?_;refine kad (kc _ _ _ (S0.mono (u4.trans (wc.trans sd))) Rd) ?_;rintro r he ⟨rfl,se⟩;have we:=(wc.trans sd).trans se;have ge:=(we.get _ l4).trans g4;have ye:=kab ge;refine zs1 ge ?_;refine kad (kp _) ?_;rintro r hf ⟨sf,pf,rfl,Rf,Kf⟩;have gf:hf.get h4.size=he.get h4.size:=sf.get h4.size ye;refine zs3 gf ge @plA.eq_1 ?_;refine kad (t1 _ _ _ (S0.mono (u4.trans (we.trans sf))) Rf) ?_;rintro r hg ⟨rfl,sg⟩;have wg:=(we.trans sf).trans sg;have gg:=(wg.get _ l4).trans g4;have yg:=kab gg;refine zs1 gg ?_;refine kad (kp _) ?_;rintro r hi ⟨si,pi,rfl,Ri,Ki⟩
 have gi:hi.get h4.size=hg.get h4.size:=si.get h4.size yg;refine zs3 gi gg @plA.eq_1 ?_;refine kad (t2 _ _ _ (S0.mono (u4.trans (wg.trans si))) Ri) ?_;rintro r hj ⟨rfl,sj⟩;have wj:=(wg.trans si).trans sj;refine zs ?_;refine kaa (kw _) (zs1 Qn ?_);exact sB.trans (u4.trans wj)
def someOf(l:List Int)(i:Nat)(n:Int):Int:=if i<l.length then l.getD i 0% n else 0
theorem jin(hC:Has C TA){v:AV}{l:List Int}{i:Nat}{n:Int}{h:Heap}(hl:RI h v l)(hx:∀x∈l,In64 x)(hn:1<=n/\n<=9223372036854775807):
  ACalls C 45 [v,.int .i64 (i:Nat),.int .i64 n] h (fun r h'=>r=.int .i64 (someOf l i n)/\h'=h):=by
 have hlt:=hl.lt;refine zf 45 B45 hC ?_;simp only[B45,zB];refine zs1 @hl.len ?_;refine kag (fun c=>?_) (fun c=>?_)
 ·simp-implicitDefEqProofs (disch:=first|exact zd|fail) only[↓wpPre,jbs,jbt,Int.reduceToNat,Int.reducePow,Int.reduceMul,Int.reduceAdd,Int.reduceSub,Int.reduceNeg,Nat.reduceAdd,Nat.reduceMul,Nat.reducePow,Int.reduceLT,Int.reduceLE,Int.reduceEq,Nat.reduceEqDiff,someOf,if_neg (show ¬i<l.length by omega)]
 ·have hi:i<l.length:=by omega
  refine zs2 @hl.idx @hl.load ?_;refine kaa (jkW hC (hx _ (jav hi)) hn) ?_;simp-implicitDefEqProofs (disch:=first|exact zd|fail) only[↓wpPre,jbs,jbt,Int.reduceToNat,Int.reducePow,Int.reduceMul,Int.reduceAdd,Int.reduceSub,Int.reduceNeg,Nat.reduceAdd,Nat.reduceMul,Nat.reducePow,Int.reduceLT,Int.reduceLE,Int.reduceEq,Nat.reduceEqDiff,someOf,if_pos hi]
theorem jap{n:Int}(hn:1<=n):0<=someOf l i n/\someOf l i n<n:=by
 unfold someOf;split
 ·exact⟨Int.emod_nonneg _ (by omega),Int.emod_lt_of_pos _ (by omega)⟩
 ·omega
def jeF(l:List Int):PlanP:=⟨5+someOf l 0 3,1+someOf l 1 3,1+someOf l 2 3,2,10+someOf l 3 20,10+someOf l 3 20+someOf l 5 3,someOf l 4 200,if someOf l 0 3=2/\someOf l 7 2=1 then[1+someOf l 6 30,1+someOf l 6 30+2]else[1+someOf l 6 30]⟩
theorem joJ(l:List Int):(jeF l).prns=[1+someOf l 6 30]\/(jeF l).prns=[1+someOf l 6 30,1+someOf l 6 30+2]:=by
 unfold jeF;dsimp only;split
 ·exact .inr rfl
 ·exact .inl rfl
def alI(p:PlanP)(e:EmitP)(a k:Int):Prop:=e.dl+k*p.size+k*e.rt/1024-a<p.o/\a-(e.dl+k*p.size+k*e.rt/1024)<p.o
instance (p:PlanP) (e:EmitP) (a k:Int):Decidable (alI p e a k):=by unfold alI;exact inferInstance
theorem jkk{h:Heap}{k sz bytes i o n c m:Nat}{news vs:List AV}{u:Nat}(h1:o+n*sz<=vs.length)(h2:c<n+m)(h3:(n+m)*bytes<=1099511627776):
  appKB h (some k) sz bytes i o n c m news (some (.cells vs true u))=kept k h (h.get k) (fun k _ p=>some (.slice k 0 (n+m) (.unk 0),p (.cells (cut vs o (n*sz)++news) true sz))):=by
 simp only[appKB];rw[if_pos h1,if_neg (by omega)];simp only[jer,kept];cases hg:h.get k with
 |none=>by_cases hn:k<h.size<;>simp[hn,Heap.nid,Heap.new]<;>omega
 |some b=>simp
def smallOf(l:List Int):PlanP:=⟨min (5+someOf l 0 3) 6,min (1+someOf l 1 3) 2,1+someOf l 2 3,2,10+someOf l 3 20,10+someOf l 3 20+someOf l 5 3,someOf l 4 200,if someOf l 8 3=0 then[1+someOf l 6 30,1+someOf l 6 30+2]else[1+someOf l 6 30]⟩
theorem jcR(l:List Int):(smallOf l).numsOk/\(smallOf l).o<=2/\((smallOf l).d=5\/(smallOf l).d=6):=by
 have h0:=jap (l:=l) (i:=0) (n:=3) (by omega);have h1:=jap (l:=l) (i:=1) (n:=3) (by omega);have h2:=jap (l:=l) (i:=2) (n:=3) (by omega);have h3:=jap (l:=l) (i:=3) (n:=20) (by omega);have h4:=jap (l:=l) (i:=4) (n:=200) (by omega);have h5:=jap (l:=l) (i:=5) (n:=3) (by omega);unfold PlanP.numsOk smallOf;dsimp only;refine⟨⟨?_,by omega,by omega,by omega,by omega,by omega,by omega⟩,by omega,by omega⟩;rcases(show min (5+someOf l 0 3) 6=5\/min (5+someOf l 0 3) 6=6 by omega)with e|e<;>rw[e]<;>decide
theorem jgz(l:List Int):(smallOf l).prns=[1+someOf l 6 30]\/(smallOf l).prns=[1+someOf l 6 30,1+someOf l 6 30+2]:=by
 unfold smallOf;dsimp only;split
 ·exact .inr rfl
 ·exact .inl rfl
theorem jlB(l:List Int):(smallOf l).err=0:=by
 have h6:=jap (l:=l) (i:=6) (n:=30) (by omega);have hn:=(jcR l).1;have l31:31<=lenN (smallOf l).d:=by
  have hc:=(jcR l).2.2;generalize (smallOf l).d=d at*;rcases hc with e|e<;>rw[e]<;>decide
 unfold PlanP.err;rw[if_pos hn];rcases jgz l with e|e
 ·rw[e,if_neg (by simp),if_neg (by simp)];rw[jbf,if_neg (by omega),if_neg (by simp),jbf]
 ·rw[e,if_neg (by simp),if_neg (by simp)];rw[jbf,if_neg (by omega),if_neg (by simp),jbf,if_neg (by omega),if_neg (by simp;omega),jbf]
theorem jrI(l:List Int):(smallOf l).ok64:=by
 have h6:=jap (l:=l) (i:=6) (n:=30) (by omega);have hn:=(jcR l).1;obtain⟨n1,n2,n3,n4,n5,n6,n7⟩:=hn;have hd:=(jcR l).2.2;have hp:=jgz l;refine⟨?_,?_,?_,?_,?_,?_,?_,fun x hx=>?_⟩;all_goals first
  |(unfold In64;omega)
  |skip
 unfold In64;rcases hp with e|e<;>rw[e]at hx<;>simp only[List.mem_cons,List.not_mem_nil,or_false]at hx<;>omega
theorem jqu(hC:Has C TA)(hl:RI h v l)(hx:∀x∈l,In64 x):ACalls C 328 [v] h (fun r h'=>HSub h h'/\∃vp i,r=plA (jeF l) vp/\h.size<=i/\((vp=.slice i 0 1 (.known 1)/\(jeF l).prns=[1+someOf l 6 30]/\h'.get i=some (.cells (ints [1+someOf l 6 30]) true 0))\/(vp=.slice i 0 2 (.unk 0)/\(jeF l).prns=[1+someOf l 6 30,1+someOf l 6 30+2]/\h'.get i=some (.cells (ints [1+someOf l 6 30,1+someOf l 6 30+2]) true 1)))):=by
 have hlt:=hl.lt;have S:=fun(i:Nat) (n:Int) (hn:1<=n/\n<=9223372036854775807) h1 (q:HSub h h1)=>jin hC (i:=i) (hl.mono q) hx hn;have h0:=jap (l:=l) (i:=0) (n:=3) (by omega);have h1:=jap (l:=l) (i:=1) (n:=3) (by omega);have h2:=jap (l:=l) (i:=2) (n:=3) (by omega);have h3:=jap (l:=l) (i:=3) (n:=20) (by omega);have h4:=jap (l:=l) (i:=4) (n:=200) (by omega);have h5:=jap (l:=l) (i:=5) (n:=3) (by omega);have h6:=jap (l:=l) (i:=6) (n:=30) (by omega);have h7:=jap (l:=l) (i:=7) (n:=2) (by omega);unfold plA jeF;dsimp only
 have S0:=S 0 3 (by omega);have S1:=S 1 3 (by omega);have S2:=S 2 3 (by omega);have S3:=S 3 20 (by omega);have S4:=S 4 200 (by omega);have S5:=S 5 3 (by omega);have S6:=S 6 30 (by omega);have S7:=S 7 2 (by omega);generalize someOf l 0 3=a0 at*;generalize someOf l 1 3=a1 at*;generalize someOf l 2 3=a2 at*;generalize someOf l 3 20=a3 at*;generalize someOf l 4 200=a4 at*;generalize someOf l 5 3=a5 at*;generalize someOf l 6 30=a6 at*;generalize someOf l 7 2=a7 at*;have D:=fun h1=>jmK (h:=h1) hC (x:=a0) (by unfold In64;omega);have ed:a0% 3=a0:=by omega
 rw[ed]at D;generalize hP:(if a0=2/\a7=1 then[1+a6,1+a6+2]else[1+a6])=P;refine zf 328 B328 hC ?_;simp only[B328,zB];refine zs ?_;refine kaa (S0 _ zr) (zs ?_);refine kaa (D _) (zs ?_);refine kaa (S1 _ zr) (zs ?_);refine kaa (S2 _ zr) (zs ?_);refine kaa (S3 _ zr) (zs ?_);refine kaa (S4 _ zr) (zs ?_);refine kaa (S5 _ zr) (zs ?_);refine kaa (S6 _ zr) (zs ?_);by_cases c:a0=2
 ·have c5:5+a0=7:=by omega
  refine zs1 c5 ?_;refine kaa (S7 _ zr) ?_;by_cases c7:a7=1
  ·rw[if_pos ⟨c,c7⟩]at hP;subst hP;refine zs5 c7 @Heap.wf @cont_slice @contB_one @jkk ?_;exact⟨zr,_,_,by rw[c5],by omega,.inr ⟨rfl,by refine zs ?_;rfl⟩⟩
  ·rw[if_neg (fun q=>c7 q.2)]at hP;subst hP;refine zs1 c7 ?_;exact⟨zr,_,_,by rw[c5],by omega,.inl ⟨rfl,by refine zs ?_;rfl⟩⟩
 ·rw[if_neg (fun q=>c q.1)]at hP;subst hP;have c5:¬5+a0=7:=by omega
  refine zs1 c5 ?_;exact⟨zr,_,_,rfl,by omega,.inl ⟨rfl,by refine zs ?_;rfl⟩⟩
theorem jkl(hC:Has C TA)(hl:RI h v l)(hx:∀x∈l,In64 x):ACalls C 404 [v] h (fun r h'=>HSub h h'/\∃vp,r=plA (smallOf l) vp/\RI h' vp (smallOf l).prns):=by
 have h0:=jap (l:=l) (i:=0) (n:=3) (by omega);have h1:=jap (l:=l) (i:=1) (n:=3) (by omega);have h6:=jap (l:=l) (i:=6) (n:=30) (by omega);have S8:=fun H (q:HSub h H)=>jin hC (h:=H) (i:=8) (n:=3) (hl.mono q) hx (by omega);have kQ:=fun H (q:HSub h H)=>jqu hC (h:=H) (hl.mono q) hx;have qp:=joJ l;unfold plA jeF at kQ;unfold plA smallOf;dsimp only at kQ|-;have lo:=hl.one;generalize someOf l 6 30=a6 at*;generalize someOf l 0 3=a0 at*;generalize someOf l 1 3=a1 at*;generalize someOf l 8 3=a8 at*;have gr:∀(H:Heap) (k:Nat),H.get k=some (.cells [.int .i64 (1+a6),.int .i64 (1+a6+2)] true 1)->RI H (.slice k 0 2 (.unk 0)) [1+a6,1+a6+2]:=fun H k g=>(show GrwI kaW H (.slice k 0 2 (.unk 0)) [1+a6,1+a6+2]from⟨⟨Nat.zero_le _,fun i hi=>absurd hi (Nat.not_lt_zero i)⟩,by simp[ints],by simp,.inr ⟨k,[],Nat.zero_le _,rfl,by rw[List.append_nil];exact g⟩⟩).ri
 generalize hP:(if a8=0 then[1+a6,1+a6+2]else[1+a6])=P;refine zf 404 B404 hC ?_;simp only[B404,zB];refine zs ?_;refine kad (kQ _ zr) ?_;rintro r h1 ⟨s1,vp,i,rfl,hi,hcase⟩;have z1:=s1.size;simp only[Heap.size_push]at z1 hi;have g2:=s1.get h.size (by simp);rw[get_push_eq rfl]at g2;have t1:=(kac h (.cells [.int .i64 0,.int .i64 0,.int .i64 0,.int .i64 0,.int .i64 0,.int .i64 0,.int .i64 0,.nilslice] true 0)).trans s1;rcases hcase with⟨rfl,_,gi⟩|⟨rfl,_,gi⟩
 ·have li:=kab gi;have sl:∀H,jaM H 1 (.slice i 0 1 (.known 1)) none (some (.int .i64 1)) none=some (.slice i 0 1 (.known 1)):=fun H=>rfl;refine zs1 sl ?_;by_cases c8:a8=0
  ·refine kaa (S8 _ (zh t1)) ?_;rw[if_pos c8]at hP;subst hP;refine zs7 @c8 gi @cont_slice @contB_one @jkk @appKB_grow (zI @Heap.wf g2) ?_;exact⟨(zh t1),_,rfl,gr _ _ (by refine zs ?_;rfl)⟩
  ·refine kaa (S8 _ (zh t1)) ?_;rw[if_neg c8]at hP;subst hP;refine zs2 @c8 g2 ?_;exact⟨(zh t1),_,rfl,kah (l:=[1+a6]) (wr:=true) (u:=0) (by exact ze1 gi) ⟨rfl,by simp⟩ (Nat.le_refl _)⟩
 ·have li:=kab gi;have sl:∀b,jaM (h1.push b) 1 (.slice i 0 2 (.unk 0)) none (some (.int .i64 1)) none=some (.slice i 0 1 (.unk 0)):=fun b=>by
   have g:(h1.push b).get i=some (.cells (ints [1+a6,1+a6+2]) true 1):=(get_push_lt li).trans gi;simp only[jaM,g];rfl
  have uB:∀(H:Heap) (k:Nat),H.get k=none->k<H.size->appUB H (some k) 1 8 i 0 1 0 1 [.int .i64 (1+a6+2)] (some (.cells (ints [1+a6,1+a6+2]) true 1))=some (.slice k 0 2 (.unk 0),(H.put i .dead).put k (.cells (ints [1+a6,1+a6+2]) true 1)):=fun H k g l=>by
   have r:H.room (some k)=true:=by simp[Heap.room,g,l]
   exact if_pos ⟨rfl,rfl,by simp[ints],rfl,by omega,r,by omega⟩
  have gn:∀b b2,(((h1.push b).reserve 11).put (h1.size+1+7) b2).get (h1.size+1+8)=none:=fun b b2=>by
   rw[get_put_ne (by omega),Heap.get_reserve,kao,if_neg (by omega)];exact h1.wf _ (by omega)
  have gl:∀b b2,h1.size+1+8<(((h1.push b).reserve 11).put (h1.size+1+7) b2).size:=fun b b2=>by
   simp only[Heap.size_put,Heap.size_reserve,Heap.size_push];omega
  have R2:∀H:Heap,H.get i=some (.cells (ints [1+a6,1+a6+2]) true 1)->RI H (.slice i 0 1 (.unk 0)) [1+a6]:=fun H g=>by
   obtain⟨v',e,R⟩:=SL.takeK (kk:=.i64) (gr H i g) (k:=1) (by simp);have e':=e H (kaf H);have e2:jaM H 1 (.slice i 0 2 (.unk 0)) none (some (.int .i64 1)) none=some (.slice i 0 1 (.unk 0)):=by
    simp only[jaM,g];rfl
   rw[show(.int .i64 ((1:Nat):Int):AV)=.int .i64 1 from rfl,e2]at e';cases e';exact R
  refine zs1 sl ?_;by_cases c8:a8=0
  ·refine kaa (S8 _ (zh t1)) ?_;rw[if_pos c8]at hP;subst hP;simp-implicitDefEqProofs (disch:=first|exact zd|fail) only[↓wpPre,jbs,jbt,Int.reduceToNat,Int.reducePow,Int.reduceMul,Int.reduceAdd,Int.reduceSub,Int.reduceNeg,Nat.reduceAdd,Nat.reduceMul,Nat.reducePow,Int.reduceLT,Int.reduceLE,Int.reduceEq,Nat.reduceEqDiff,c8,gi,cont_slice,contB_one,jkk,appKB_grow,appUB_grow,app_unk,uB _ _ (gn _ _) (gl _ _),Heap.wf,g2];exact⟨(zh t1),_,rfl,gr _ _ (by refine zs ?_;rfl)⟩
  ·refine kaa (S8 _ (zh t1)) ?_;rw[if_neg c8]at hP;subst hP;refine zs2 @c8 g2 ?_;exact⟨(zh t1),_,rfl,R2 _ (by exact ze1 gi)⟩
theorem jlC{o p:Int}(h1:s.length<=1048576)(h2:∀x∈s,inS 127 x)(h3:jat d o [p]=0)(h4: -2000000<=a/\a<=2000000):bankErr s d o p a=0:=by
 unfold bankErr;rw[if_neg (by omega),if_neg (not_not_intro h2),if_neg (not_not_intro h3),if_neg (by omega)]
def sgI(l:List Int)(i:Nat):Int×Int:=(someOf l (i% max 1 l.length) 255-127,someOf l ((7*i+3)% max 1 l.length) 255-127)
def negP(x:Int×Int):Int×Int:=(-x.1,-x.2)
def sgL(l:List Int)(n:Nat):List (Int×Int):=(List.range n).map (sgI l)
def sgN(l:List Int)(n:Nat):List (Int×Int):=(List.range n).map fun i=>negP (sgI l i)
theorem jio(l:List Int)(n:Nat):(sgL l n).length=n:=by simp[sgL]
theorem jqv(l:List Int)(n:Nat):(sgN l n).length=n:=by simp[sgN]
theorem jrJ(l:List Int)(n:Nat):sgL l (n+1)=sgL l n++[sgI l n]:=by simp[sgL,List.range_succ]
theorem jrK(l:List Int)(n:Nat):sgN l (n+1)=sgN l n++[negP (sgI l n)]:=by simp[sgN,List.range_succ]
theorem jr2(l:List Int)(n:Nat):sgN l n=(sgL l n).map negP:=by simp[sgL,sgN]
theorem jqw(l:List Int)(i:Nat):(-127<=(sgI l i).1/\(sgI l i).1<=127)/\(-127<=(sgI l i).2/\(sgI l i).2<=127):=by
 have h1:=jap (l:=l) (i:=i% max 1 l.length) (n:=255) (by omega);have h2:=jap (l:=l) (i:=(7*i+3)% max 1 l.length) (n:=255) (by omega);unfold sgI;dsimp only;omega
theorem jnv(l:List Int)(n:Nat):∀x∈sgL l n,inS 127 x:=by
 intro x hx;obtain⟨i,_,rfl⟩:=List.mem_map.1 hx;exact jqw l i
theorem jtf(l:List Int)(n:Nat):∀x∈sgN l n,inS 127 x:=by
 intro x hx;obtain⟨i,_,rfl⟩:=List.mem_map.1 hx;have:=jqw l i;unfold inS negP;dsimp only;omega
theorem jsT(s:List (Int×Int))(i:Int):atP (s.map negP) i=negP (atP s i):=by
 unfold atP;rw[List.length_map];split
 ·rfl
 ·rw[List.getD_eq_getElem?_getD,List.getElem?_map,List.getD_eq_getElem?_getD];cases s[i.toNat]? <;>rfl
theorem jnw(s:List (Int×Int))(c:List Int)(a:Int):∀k,sumK (s.map negP) c a k=negP (sumK s c a k)
 |0=>rfl
 |k+1=>by
  unfold sumK;rw[jnw s c a k,jsT];unfold addP mulP negP;dsimp only;rw[Int.neg_mul,Int.neg_mul,Int.neg_add,Int.neg_add]
theorem jrL(x:Int×Int):powP (negP x)=powP x:=by
 unfold powP negP;dsimp only;rw[Int.neg_mul_neg,Int.neg_mul_neg]
theorem jsU(s:List (Int×Int))(c:List Int)(a:Int):wpI (s.map negP) c a=wpI s c a:=by
 unfold wpI sumP;rw[jnw,jrL]
theorem jqx(s:List (Int×Int))(c:List Int)(a w:Int):∀k,pwK (s.map negP) c a w k=pwK s c a w k
 |0=>rfl
 |k+1=>by unfold pwK;rw[jqx s c a w k,jsU]
theorem jrM(p:PlanP)(s:List (Int×Int))(q f m:Int):scnI p (s.map negP) q f m=scnI p s q f m:=by
 unfold scnI scanL;exact List.map_congr_left fun i _=>jqx _ _ _ _ _
theorem jeG(l:List Int):1<=(smallOf l).size/\(smallOf l).size<=126:=by
 obtain⟨n,o2,hd⟩:=jcR l;obtain⟨_,n2,_⟩:=n;have o1:1<=(smallOf l).o:=by omega
 unfold PlanP.size;generalize (smallOf l).o=o at*;generalize (smallOf l).d=d at*;rcases hd with rfl|rfl
 ·rw[show((lenN 5:Nat):Int)=31 from rfl];omega
 ·rw[show((lenN 6:Nat):Int)=63 from rfl];omega
theorem jip(l:List Int):(smallOf l).prns.getD 0 0=1+someOf l 6 30/\1+someOf l 6 30∈(smallOf l).prns/\0<(smallOf l).prns.length:=by
 rcases jgz l with e|e<;>rw[e]<;>simp
theorem joK{m:Int}(hs:∀x∈s,inS 127 x)(hl:(s.length:Int)=3*(smallOf l).size)(hf:(f=0/\(m=1\/m=2))\/(f=(smallOf l).size/\m=1)):jfp (smallOf l) s (1+someOf l 6 30) f m=0:=by
 have z:=jeG l;have c:codeE (smallOf l) (1+someOf l 6 30)=0:=if_pos (jip l).2.1;have e1:sampE s=0:=by
  unfold sampE;rw[if_neg (by omega),if_pos hs]
 have e2:placE f m=0:=by
  unfold placE;rw[if_neg (by omega)]
 have e3:fitB s (smallOf l) f m=true:=by
  unfold fitB;rw[decide_eq_true_eq,hl];generalize (smallOf l).size=z at*;rcases hf with⟨rfl,rfl|rfl⟩|⟨rfl,rfl⟩<;>omega
 unfold jfp;rw[jlB,c,e1,e2,e3];rfl
theorem jkm(p:PlanP)(s:List (Int×Int))(q f m:Int):(scnI p s q f m).length=p.size.toNat:=jeB _ _ _ _ _ _
theorem jlD{q:Int}(h:i<p.size.toNat):(scnI p s q f 1).getD i 0=wpI s (sampL p.d q p.o.toNat) (f+i):=by
 unfold scnI;rw[jeC h];show 0+wpI _ _ (f+i+(0:Nat)*_)=_;rw[Int.zero_add,show(((0:Nat):Int))*p.size=0 by simp,Int.add_zero]
theorem jtg{q:Int}(h:i<p.size.toNat):(scnI p s q 0 2).getD i 0=wpI s (sampL p.d q p.o.toNat) i+wpI s (sampL p.d q p.o.toNat) (p.size+i):=by
 unfold scnI;rw[jeC h];show 0+wpI _ _ (0+i+(0:Nat)*_)+wpI _ _ (0+i+(1:Nat)*_)=_;rw[Int.zero_add,Int.zero_add,show(((0:Nat):Int))*p.size=0 by simp,Int.add_zero,show(((1:Nat):Int))*p.size=p.size by simp,Int.add_comm (i:Int)]
theorem joL(l:List Int):jat (smallOf l).d (smallOf l).o [1+someOf l 6 30]=0:=(jeA (jlB l)).samp fun x hx=>by rw[List.mem_singleton]at hx;rw[hx];exact(jip l).2.1
theorem joM{l:List Int}{s:List (Int×Int)}{n:Nat}(hn:(smallOf l).size=(n:Int))(hs:∀x∈s,inS 127 x)(hl:s.length=3*n){i:Nat}(hi:i<n):
  bsumE s (smallOf l).d (smallOf l).o (1+someOf l 6 30) (i:Nat)=.tuple [smp (sumP s (sampL (smallOf l).d (1+someOf l 6 30) (smallOf l).o.toNat) (i:Nat)),.int .i64 0]/\(scnI (smallOf l) s (1+someOf l 6 30) 0 1).getD i 0=powP (sumP s (sampL (smallOf l).d (1+someOf l 6 30) (smallOf l).o.toNat) (i:Nat))/\(scnI (smallOf l) s (1+someOf l 6 30) 0 2).getD i 0=(scnI (smallOf l) s (1+someOf l 6 30) 0 1).getD i 0+(scnI (smallOf l) s (1+someOf l 6 30) n 1).getD i 0/\(0<=(scnI (smallOf l) s (1+someOf l 6 30) 0 1).getD i 0/\(scnI (smallOf l) s (1+someOf l 6 30) 0 1).getD i 0<=2200000000000)/\(0<=(scnI (smallOf l) s (1+someOf l 6 30) n 1).getD i 0/\(scnI (smallOf l) s (1+someOf l 6 30) n 1).getD i 0<=2200000000000):=by
 have z:=jeG l;have h':i<(smallOf l).size.toNat:=by omega
 have se:=joL l;have w:=fun a=>jj7 (jsn (a:=a) hs (jfP se));have w1:=(w (0+i)).2;have w2:=(w (n+i)).2;refine⟨?_,?_,?_,?_,?_⟩
 ·unfold bsumE;rw[jlC (by omega) hs se (by omega),if_pos rfl]
 ·rw[jlD h',Int.zero_add];rfl
 ·rw[jlD h',jlD h',jtg h',hn,Int.zero_add]
 ·rw[jlD h'];exact w1
 ·rw[jlD h'];exact w2
theorem AcquireSigns_law(hC:Has C TA){w:AV}{lv:List Int}(hl:RI h v l)(hw:RI h w lv)(hx:∀x∈l,In64 x)(hy:∀x∈lv,In64 x):ACalls C.main0 396 [v,w] h (fun r _=>r=.bool true):=by
 have hM:Has C.main0 TA:=hC.main0;have hlt:=hw.lt;have z:=jeG l;have p64:=jrI l;obtain⟨n,hn⟩:∃n:Nat,(smallOf l).size=(n:Int):=⟨_,(Int.toNat_of_nonneg (by omega)).symm⟩;have kA:=jgy hC (h:=h);have kS:=fun H (q:HSub h H)=>jkl hM (h:=H) (hl.mono q) hx;have kz:=fun vp H v1=>jcE hM (p:=smallOf l) (vp:=vp) (h:=H) (jcR l).1 v1;rw[hn]at kz z;have kM:=fun(i:Nat) H (q:HSub h H)=>jin hM (h:=H) (i:=i) (n:=255) (hw.mono q) hy (by omega);have kk:∀(s:List (Int×Int)) (f m:Int),(∀x∈s,inS 127 x)->s.length=3*n->((f=0/\(m=1\/m=2))\/(f=n/\m=1))->∀vs vp H,SI H vs s->RI H vp (smallOf l).prns->ACalls C.main0 368 [vs,plA (smallOf l) vp,.int .i64 (1+someOf l 6 30),.int .i64 f,.int .i64 m] H (fun r h'=>∃v',r=jah v' 0/\HSub H h'/\RI h' v' (scnI (smallOf l) s (1+someOf l 6 30) f m)):=fun s f m hs hl hf vs vp H S R=>by
  have e:=joK (l:=l) (f:=f) (m:=m) hs (by omega) (by rw[hn];exact hf);have k:=jlt hM (prn:=1+someOf l 6 30) (f:=f) (m:=m) S R p64 (by unfold In64;omega) (by unfold In64;omega);rw[e,if_pos rfl]at k;exact k
 have a1:=kk _ 0 2 (jnv lv (3*n)) (jio _ _) (by omega);have a2:=kk _ 0 2 (jtf lv (3*n)) (jqv _ _) (by omega);have a3:=kk _ 0 1 (jnv lv (3*n)) (jio _ _) (by omega);have a4:=kk _ n 1 (jnv lv (3*n)) (jio _ _) (by omega);rw[jr2,jrM,<-jr2]at a2;have kq:=fun va vb H (A:RI H va (scnI (smallOf l) (sgL lv (3*n)) (1+someOf l 6 30) 0 2)) (B:RI H vb (scnI (smallOf l) (sgL lv (3*n)) (1+someOf l 6 30) 0 2))=>ji1 hM A B;rw[decide_eq_true rfl]at kq;have kb:=fun(i:Nat) H vs (hi:i<n) (S:SI H vs (sgL lv (3*n)))=>jok hM (d:=(smallOf l).d) (o:=(smallOf l).o) (p:=1+someOf l 6 30) (a:=(i:Nat)) S p64.1 p64.2.1 (p64.2.2.2.2.2.2.2 _ (jip l).2.1) (by unfold In64;omega)
 have sf:=fun(i:Nat) (hi:i<n)=>joM hn (jnv lv (3*n)) (jio lv (3*n)) hi;have l1:=jkm (smallOf l) (sgL lv (3*n)) (1+someOf l 6 30) 0 2;have l2:=jkm (smallOf l) (sgL lv (3*n)) (1+someOf l 6 30) 0 1;have l3:=jkm (smallOf l) (sgL lv (3*n)) (1+someOf l 6 30) n 1;rw[hn,Int.toNat_natCast]at l1 l2 l3;have q0:=(jip l).1;have q1:=(jip l).2.2;generalize scnI (smallOf l) (sgL lv (3*n)) (1+someOf l 6 30) 0 2=A at*;generalize scnI (smallOf l) (sgL lv (3*n)) (1+someOf l 6 30) 0 1=B at*;generalize scnI (smallOf l) (sgL lv (3*n)) (1+someOf l 6 30) n 1=D at*
 generalize 1+someOf l 6 30=q at*;generalize smallOf l=p at*;clear kk;unfold plA at*;refine jd1 (hM.body (by decide) (by rfl:tab 396=some B396)) (Nat.le_of_ble_eq_true rfl) ?_;show wp C.main0 _ none B396.code _ _;simp only[B396,zB];refine zs ?_;refine kad kA ?_;rintro r h1 ⟨rfl,s1⟩;refine zs ?_;refine kad (kS _ s1) ?_;rintro r h2 ⟨s2,vp,rfl,R2⟩;have v1:=R2.one;refine zs ?_;refine kaa (kz _ _ v1) (zs ?_);have u2:=s1.trans s2;have g2:=get_push_eq (h:=h2) (b:=.cells [.int .i64 p.d,.int .i64 p.o,.int .i64 p.pb,.int .i64 p.w,.int .i64 p.mn,.int .i64 p.mx,.int .i64 p.nz,vp] true 0) (i:=h2.size) rfl
 have u3:=u2.push (.cells [.int .i64 p.d,.int .i64 p.o,.int .i64 p.pb,.int .i64 p.w,.int .i64 p.mn,.int .i64 p.mx,.int .i64 p.nz,vp] true 0);have R3:=R2.mono (kac h2 (.cells [.int .i64 p.d,.int .i64 p.o,.int .i64 p.pb,.int .i64 p.w,.int .i64 p.mn,.int .i64 p.mx,.int .i64 p.nz,vp] true 0));generalize (h2.push (.cells [.int .i64 p.d,.int .i64 p.o,.int .i64 p.pb,.int .i64 p.w,.int .i64 p.mn,.int .i64 p.mx,.int .i64 p.nz,vp] true 0))=h3 at*;have lc:=kab g2;generalize h2.size=c at*;have L0:=jio lv;have L1:=jqv lv;refine jag (fun j t H=>∃i:Nat,GrwS h3 H (t 8) (sgL lv i)/\GrwS h3 H (t 9) (sgN lv i)/\Dj (t 8) (t 9)/\t 1=w/\t 5=.bool true/\t 6=.ptr c 0/\t 7=.int .i64 (n:Nat)/\t 10=.int .i64 (i:Nat)/\i<=3*n/\j=3*n-i) (j0:=3*n)
  ⟨0,kbp _,kbp _,kbw,rfl,rfl,rfl,rfl,rfl,by omega,rfl⟩ ?_
 rintro j t H ⟨i,B1,B2,hd,e1,e5,e6,e7,e10,hi,hj⟩;refine zs2 e7 e10 ?_;refine kag (fun c3=>?_) (fun c3=>?_)
 ·have hi':i<3*n:=by omega
  have hm:0<max 1 lv.length:=by omega
  have mx:max 1 (lv.length:Int)=((max 1 lv.length:Nat):Int):=by omega
  have m1:(i:Int)% max 1 (lv.length:Int)=((i% max 1 lv.length:Nat):Int):=by rw[mx];exact(Int.natCast_emod _ _).symm
  have m2:(7*(i:Int)+3)% max 1 (lv.length:Int)=(((7*i+3)% max 1 lv.length:Nat):Int):=by
   rw[mx,show 7*(i:Int)+3=((7*i+3:Nat):Int)by omega];exact(Int.natCast_emod _ _).symm
  have uH:=u3.trans B1.sub;have gI:=jqw lv i;have eI:sgI lv i=(someOf lv (i% max 1 lv.length) 255-127,someOf lv ((7*i+3)% max 1 lv.length) 255-127):=rfl;have nI:negP (sgI lv i)=(0-(someOf lv (i% max 1 lv.length) 255-127),0-(someOf lv ((7*i+3)% max 1 lv.length) 255-127)):=by rw[Int.zero_sub,Int.zero_sub];rfl
  rw[eI]at gI;dsimp only at gI;have p1:=jrJ lv i;have p2:=jrK lv i;rw[nI]at p2;rw[eI]at p1;have M1:=kM (i% max 1 lv.length);have M2:=kM ((7*i+3)% max 1 lv.length);generalize someOf lv (i% max 1 lv.length) 255=x at*;generalize someOf lv ((7*i+3)% max 1 lv.length) 255=y at*;refine zs4 e1 e10 @hw.len @m1 ?_;refine kaa (M1 _ (zh uH)) (zs4 e1 e10 @hw.len @m2 ?_);refine kaa (M2 _ (zh uH)) (zs5 e1 e10 @Heap.wf @cont_slice @jhN ?_);have na:=fun(p q:Nat) (i:H.size<=p) (j:p≠q)=>kbl B1 i j;refine⟨⟨na _ _ (by omega) (by omega),na _ _ (by omega) (by omega)⟩,?_⟩
  have z3:=B1.sub.size;refine kaX (fun S hS=>?_);have zS:S.size=H.size+37:=by rw[hS];exact ze
  have kS:∀j,H.size+24<=j->S.get j=none:=by
   intro j hj;rw[hS];simp only[get_put_ne (show j≠H.size+21+2 by omega),Heap.get_reserve,get_put_ne (show j≠H.size+19 by omega)];exact H.wf j (by omega)
  have gS:∀j,j<H.size->S.get j=H.get j:=by
   intro j hj;rw[hS];simp only[get_put_ne (show j≠H.size+21+2 by omega),Heap.get_reserve,get_put_ne (show j≠H.size+19 by omega)]
  have bS:HSub h3 S:=by
   have:=B1.sub;rw[hS];exact(zh this)
  have g11:S.get (H.size+19)=some (.cells [.int .i64 (x-127),.int .i64 (y-127)] true 0):=by rw[hS];exact ze
  clear hS;have n1:=L0 i;have n2:=L1 i;have ap1:=GrwS.appG (a:=x-127) (b:=y-127) (H:=S) (k:=H.size+24) B1 (fun i hi=>gS i (Grw.ids_lt B1 i hi).2) ⟨by omega,by omega⟩ (by omega);have gT:∀cs j,j≠H.size+24->H.size<=j->(snocH S (some (H.size+24)) (t 8) 2 cs).get j=S.get j:=fun cs j hj hi=>jdg hj (fun q=>by have:=(Grw.ids_lt B1 _ q).2;omega);rw[<-p1,n1]at ap1;have zT:(snocH S (some (H.size+24)) (t 8) 2 (smps (sgL lv (i+1)))).size=S.size:=jeN;refine zs7 ap1 kS @appK_none gT @cont_slice @jhN g11 ?_;refine kaX (fun S2 hS=>?_);have zS2:S2.size=H.size+37:=by rw[hS,Heap.size_put,zT,zS]
  have kS2:∀j,H.size+34<=j->S2.get j=none:=by
   intro j hj;rw[hS,get_put_ne (by omega),gT _ _ (by omega) (by omega)];exact kS j (by omega)
  have gS2:∀j,j<H.size->j∉(t 8).ids->S2.get j=H.get j:=by
   intro j hj hv;rw[hS,get_put_ne (by omega),jdg (by omega) hv];exact gS j hj
  have bS2:HSub h3 S2:=by
   have:=jev (k:=H.size+24) (ds:=smps (sgL lv (i+1))) B1 bS (by omega);rw[hS];exact(zh this)
  have r3:S2.get (H.size+24)=some (.cells (smps (sgL lv (i+1))) true 2):=by
   rw[hS,get_put_ne (by omega)];exact jdH (by omega)
  clear hS;have ap2:=GrwS.appG (a:=0-(x-127)) (b:=0-(y-127)) (H:=S2) (k:=H.size+34) B2 (fun i hi=>gS2 i (Grw.ids_lt B2 i hi).2 (hd.symm i hi)) ⟨by omega,by omega⟩ (by omega);have gT2:∀cs j,j≠H.size+34->H.size<=j->(snocH S2 (some (H.size+34)) (t 9) 2 cs).get j=S2.get j:=fun cs j hj hi=>jdg hj (fun q=>by have:=(Grw.ids_lt B2 _ q).2;omega);rw[<-p2,n2]at ap2;refine zs7 ap2 kS2 @appK_none e1 e5 e6 (zI e7 e10) ?_;have bF:=jev (k:=H.size+34) (ds:=smps (sgN lv (i+1))) B2 bS2 (by omega);refine⟨_,⟨i+1,kbz bF (by omega) ⟨(L0 _).symm,by rw[L0];omega⟩ ((gT2 _ _ (by omega) (by omega)).trans r3),kbz bF (by omega) ⟨(L1 _).symm,by rw[L1];omega⟩ (jdH (by omega)),jq0 (by omega),by simp,by omega,rfl⟩,by omega⟩
 ·have:i=3*n:=by omega
  subst this;have S1:SI H (t 8) (sgL lv (3*n)):=B1.si;have S2:SI H (t 9) (sgN lv (3*n)):=B2.si;have T:=B1.sub;have g4:=(T.get _ lc).trans g2;have R4:=R3.mono T;clear g2 R3;have R4o:=R4.one;refine zs5 e6 g4 @R4.idx @R4.load q0 ?_;refine kad (a1 _ _ _ S1 R4) ?_;rintro r h5 ⟨w5,rfl,s5,Q5⟩;have g5:=(s5.get _ (kab g4)).trans g4;have t5:=s5;have R5:=R4.mono t5;refine zs6 @jah.eq_1 e6 g5 @R5.idx @R5.load q0 ?_;refine kad (a2 _ _ _ (S2.mono t5) R5) ?_;rintro r h6 ⟨w6,rfl,s6,Q6⟩;have g6:=(s6.get _ (kab g5)).trans g5;have t6:=t5.trans s6;have R6:=R4.mono t6;refine zs6 @jah.eq_1 e6 g6 @R6.idx @R6.load q0 ?_
  refine kad (a3 _ _ _ (S1.mono t6) R6) ?_;rintro r h7 ⟨w7,rfl,s7,Q7⟩;have g7:=(s7.get _ (kab g6)).trans g6;have t7:=t6.trans s7;have R7:=R4.mono t7;refine zs7 @jah.eq_1 e6 e7 g7 @R7.idx @R7.load q0 ?_;refine kad (a4 _ _ _ (S1.mono t7) R7) ?_;rintro r h8 ⟨w8,rfl,s8,Q8⟩;have g8:=(s8.get _ (kab g7)).trans g7;have t8:=t7.trans s8;have R8:=R4.mono t8;have Q7:=Q7.mono s8;have Q6:=(Q6.mono s7).mono s8;have Q5:=((Q5.mono s6).mono s7).mono s8;have S1:=S1.mono t8;have kE:=kq w5 w6 h8 Q5 Q6;refine zs2 @jah.eq_1 e7 ?_;refine kaa kE (zs7 e7 @Q5.len @Q7.len @Q8.len l1 l2 l3 ?_)
  obtain⟨V,e8⟩:∃V,t 8=V:=⟨_,rfl⟩;rw[e8]at S1;refine jag (fun j t H=>HSub h8 H/\∃k:Nat,t 5=.bool true/\t 6=.ptr c 0/\t 7=.int .i64 (n:Nat)/\t 8=V/\t 12=w5/\t 16=w7/\t 18=w8/\t 20=.int .i64 (k:Nat)/\k<=n/\j=n-k) (j0:=n)
   ⟨kaf _,0,e5,e6,e7,e8,rfl,rfl,rfl,rfl,by omega,rfl⟩ ?_
  rintro j t H ⟨sH,k,e5,e6,e7,e8,e12,e16,e18,e20,hk,hj⟩;have gH:=(sH.get _ (kab g8)).trans g8;have lH:=kab gH;have RH:=R8.mono sH;have SH:=S1.mono sH;have Q5:=Q5.mono sH;have Q7:=Q7.mono sH;have Q8:=Q8.mono sH;refine zs2 e7 e20 ?_;refine kag (fun c4=>?_) (fun c4=>?_)
  ·have hk':k<n:=by omega
   obtain⟨f1,f2,f3,f4,f5⟩:=sf k hk';have K:=fun H' (q:HSub H H')=>kb k H' V hk' (SH.mono q);rw[f1]at K;generalize sumP (sgL lv (3*n)) (sampL p.d q p.o.toNat) (k:Nat)=X at*;unfold smp at K;unfold powP at f2;refine zs7 e6 e8 e20 gH @RH.idx @RH.loadC q0 ?_;refine kaa (K _ zr) ?_;have hsH:∀b,HSub H ((H.reserve 17).put (H.size+14) b):=fun b=>((kaf _).reserve _).put (by omega) _;refine zs7 e5 e6 e7 e8 e12 e16 (zI e18 (zI e20 (zI @Heap.wf (zI @Q5.idx (zI @Q7.idx (zI @Q8.idx (zI @Q5.loadC (zI @Q7.loadC (zI @Q8.loadC (zI f3 @f2.symm)))))))))) ?_
   exact⟨_,⟨sH.trans (hsH _),k+1,by simp,by omega,rfl⟩,by omega⟩
  ·exact ze1 e5
end Go.Ae
