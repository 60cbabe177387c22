/- Texts of the proof, part 2: a second reading of the lowered code, proved sound, and what the functions compute. -/
import Derived.Conc.CrowdComm
import Derived.Conc.TokenTrace
import Derived.Test.YtkbkpjinekcnhaaGreatF1
set_option linter.unusedSimpArgs false
set_option linter.unusedVariables false
set_option maxRecDepth 20000
set_option maxHeartbeats 4000000
namespace Go.Ae
open Go.Conc
def locBlk:Loc->Nat
 |.cell a=>a.block
 |.obj r=>r
 |_=>0
def EvIn(kp:Keep)(B:Nat)(e:Event):Prop:=
 (e.sync=false/\e.loc.isMemory=true/\locBlk e.loc<B/\¬kp.hide (locBlk e.loc)/\(e.write=true->¬kp.no (locBlk e.loc)))\/e=⟨.mark .noRoom,false,true⟩
def Keep.wider(kp:Keep)(a b:Nat):Keep:=⟨fun r=>kp.no r\/(a<=r/\r<b),fun r=>kp.hide r\/(a<=r/\r<b)⟩
def Keep.shared(kp:Keep)(B c:Nat):Keep:=⟨fun r=>r<B,fun r=>kp.hide r\/r=c⟩
def Keep.take(kp:Keep)(T:Nat->Prop)(last:Prop):Keep:=⟨fun r=>(last->kp.hide r)/\(¬last->kp.no r)/\¬T r,fun r=>kp.hide r/\¬T r⟩
theorem kaT{a b:Keep}(h1:∀r,a.no r↔b.no r)(h2:∀r,a.hide r↔b.hide r):a=b:=by
 cases a;cases b;have e1:=funext fun r=>propext (h1 r);have e2:=funext fun r=>propext (h2 r);simp only at e1 e2;subst e1;subst e2;rfl
theorem kaB(kp:Keep)(a:Nat):kp.wider a a=kp:=kaT (fun r=>by simp only[Keep.wider];grind) (fun r=>by simp only[Keep.wider];grind)
theorem kaO(kp:Keep){a b c:Nat}(h1:a<=b)(h2:b<=c):(kp.wider a b).wider b c=kp.wider a c:=
 kaT (fun r=>by simp only[Keep.wider];grind) (fun r=>by simp only[Keep.wider];grind)
structure TInv (t:Trace) (B:Nat) (perm:Nat->Option Keep):Prop where
 clean:∀said,¬Race said t
 deaf:∀g,Deaf t g=0
 words:Wordless t
 low:∀i a,touchAt t i=some a->locBlk a.loc<B
 known:∀g kp,perm g=some kp->∀i a,touchAt t i=some a->(¬kp.hide (locBlk a.loc)->a.write=true->Knows t g i)/\(¬kp.no (locBlk a.loc)->Knows t g i)
 home:∀i a op,touchAt t i=some a->t[i]? =some op->perm op.g=none->Knows t 0 i
 sub:∀g kp,perm g=some kp->(∀r,kp.hide r->kp.no r)/\(∀r,kp.no r->r<B)
 excl:∀g g' k k',g≠g'->perm g=some k->perm g'=some k'->∀b,b<B->¬k.no b->k'.hide b
theorem joo(e:Event){kp:Keep}{B:Nat}(h:EvIn kp B e):MemAct.ofEvent e=.access e\/MemAct.ofEvent e=.mark .noRoom:=by
 rcases h with⟨h1,h2,_⟩|rfl
 ·obtain⟨loc,wr,sy⟩:=e;simp only at h1 h2;subst h1;cases loc<;>first|(left;rfl)|(left;cases wr<;>rfl)|simp[Loc.isMemory]at h2
 ·right;rfl
theorem jml{e:Event}{kp:Keep}{B:Nat}(h:EvIn kp B e){a:Touch}(ha:(MemAct.ofEvent e).touch?=some a):
  a.loc=e.loc/\a.write=e.write/\locBlk e.loc<B/\¬kp.hide (locBlk e.loc)/\(e.write=true->¬kp.no (locBlk e.loc)):=by
 rcases h with⟨h1,h2,h3,h4,h5⟩|rfl
 ·have e1:MemAct.ofEvent e=.access e:=by
   obtain⟨loc,wr,sy⟩:=e;simp only at h1 h2;subst h1;cases loc<;>first|rfl|(cases wr<;>rfl)|simp[Loc.isMemory]at h2
  rw[e1]at ha;simp only[MemAct.touch?,Option.some.injEq]at ha;subst ha;exact⟨rfl,rfl,h3,h4,h5⟩
 ·simp[MemAct.ofEvent,MemAct.touch?]at ha
theorem wdeaf{t:Trace}(h:Wordless t)(g:Nat):Deaf t g=0:=h.deaf g _
theorem jmm{g:Nat}{fn:FuncId}{pos:String}{es:Array Event}{kp:Keep}{B:Nat}(h:∀e∈es,EvIn kp B e):Wordless (MemOp.ofEvents g fn pos es):=by
 intro op hop m hm;obtain⟨e,he,rfl⟩:=Go.Conc.mem_ofEvents hop;rcases joo e (h e he)with x|x
 ·simp only[x]at hm;cases hm
 ·simp only[x]at hm;cases hm;trivial
section
variable {t : Trace} {B : Nat} {perm : Nat -> Option Keep}
theorem jbC{t u:Trace}{i:Nat}{a:Touch}(h:touchAt (t++u) i=some a):
  (i<t.size/\touchAt t i=some a)\/(∃op,(t++u)[i]? =some op/\t.size<=i/\op∈u/\op.act.touch?=some a):=by
 obtain⟨x,hx,hxa⟩:=touch_of h;rcases getElem?_append_cases hx with⟨hi,hx'⟩|⟨hi,hxu⟩
 ·exact .inl ⟨hi,by rw[touchAt_of hx'];exact hxa⟩
 ·exact .inr ⟨x,hx,hi,hxu,hxa⟩
theorem jop{t:Trace}{i:Nat}{a:Touch}(h:touchAt t i=some a):i<t.size:=by
 obtain⟨x,hx,_⟩:=touch_of h;exact lt_size_of_getElem? hx
theorem TInv.own(H:TInv t B perm){g:Nat}{kp:Keep}(hg:perm g=some kp){B':Nat}(hB:B<=B'){fn:FuncId}{pos:String}{es:Array Event}(hes:∀e∈es,EvIn kp B' e){perm':Nat->Option Keep}
  (hp:∀g',perm' g'=if g'=g then some kp else(perm g').map fun k=>k.wider B B'):TInv (t++MemOp.ofEvents g fn pos es) B' perm':=by
 have new:∀op∈MemOp.ofEvents g fn pos es,op.g=g/\∀a,op.act.touch?=some a->locBlk a.loc<B'/\¬kp.hide (locBlk a.loc)/\(a.write=true->¬kp.no (locBlk a.loc)):=by
  intro op hop;obtain⟨e,he,rfl⟩:=Go.Conc.mem_ofEvents hop;refine⟨rfl,fun a ha=>?_⟩;obtain⟨h1,h2,h3,h4,h5⟩:=jml (hes e he) ha;rw[h1,h2];exact⟨h3,h4,h5⟩
 have kl:=(H.sub g kp hg).2;have hw:=H.words.append (jmm (g:=g) (fn:=fn) (pos:=pos) hes);have hp2:∀g' k',perm' g'=some k'->(g'=g/\k'=kp)\/(g'≠g/\∃k,perm g'=some k/\k'=k.wider B B'):=by
  intro g' k' h;rw[hp]at h;by_cases e:g'=g
  ·rw[if_pos e]at h;cases h;exact .inl ⟨e,rfl⟩
  ·rw[if_neg e]at h;obtain⟨k,hk,rfl⟩:=Option.map_eq_some_iff.1 h;exact .inr ⟨e,k,hk,rfl⟩
 refine⟨fun said=>?_,fun g'=>wdeaf hw g',hw,?_,?_,?_,?_,?_⟩
 ·refine noRace_append (H.clean said) (fun op hop=>(new op hop).1) ?_;intro i a ha op hop b hb hc;obtain⟨_,h2,h3⟩:=(new op hop).2 b hb;obtain⟨q1,q2,q3,_⟩:=hc;have hk:=H.known g kp hg i a ha;rw[q1]at hk;rcases q3 with q3|q3
  ·exact hk.1 h2 q3
  ·exact hk.2 (h3 q3)
 ·intro i a ha;rcases jbC ha with⟨_,h⟩|⟨op,_,_,hop,h⟩
  ·exact Nat.lt_of_lt_of_le (H.low i a h) hB
  ·exact((new op hop).2 a h).1
 ·intro g' k' hg' i a ha;rcases hp2 g' k' hg' with⟨rfl,rfl⟩|⟨hne,k,hk,rfl⟩
  ·rcases jbC ha with⟨_,h⟩|⟨op,hop1,_,hop,h⟩
   ·have:=H.known g' k' hg i a h;exact⟨fun x y=>(this.1 x y).app _,fun x=>(this.2 x).app _⟩
   ·have:=knows_own hop1;rw[(new op hop).1]at this;exact⟨fun _ _=>this,fun _=>this⟩
  ·rcases jbC ha with⟨_,h⟩|⟨op,hop1,_,hop,h⟩
   ·have q:=H.known g' k hk i a h;have lo:=H.low i a h;exact⟨fun x y=>(q.1 (fun z=>x (.inl z)) y).app _,fun x=>(q.2 fun z=>x (.inl z)).app _⟩
   ·obtain⟨n1,n2,n3⟩:=(new op hop).2 a h;constructor
    ·intro x y;exfalso;have hlt:locBlk a.loc<B:=by
      rcases Nat.lt_or_ge (locBlk a.loc) B with z|z
      ·exact z
      ·exact absurd (.inr ⟨z,n1⟩) x
     exact x (.inl (H.excl g g' kp k (Ne.symm hne) hg hk _ hlt (n3 y)))
    ·intro x;exfalso;have hlt:locBlk a.loc<B:=by
      rcases Nat.lt_or_ge (locBlk a.loc) B with z|z
      ·exact z
      ·exact absurd (.inr ⟨z,n1⟩) x
     exact n2 (H.excl g' g k kp hne hk hg _ hlt fun z=>x (.inl z))
 ·intro i a op ha hop hn;rcases jbC ha with⟨hi,h⟩|⟨op',hop1,_,hop',h⟩
  ·rw[getElem?_append_old hi]at hop;refine(H.home i a op h hop ?_).app _;rw[hp]at hn;by_cases e:op.g=g
   ·rw[if_pos e]at hn;cases hn
   ·rw[if_neg e]at hn;simpa using hn
  ·obtain rfl:op'=op:=Option.some.inj (hop1.symm.trans hop);rw[hp,if_pos (new op' hop').1]at hn;cases hn
 ·intro g' k' hg';rcases hp2 g' k' hg' with⟨rfl,rfl⟩|⟨hne,k,hk,rfl⟩
  ·exact⟨(H.sub g' k' hg).1,fun r hr=>Nat.lt_of_lt_of_le (kl r hr) hB⟩
  ·have q:=H.sub g' k hk;exact⟨fun r hr=>hr.imp (q.1 r) id,fun r hr=>hr.elim (fun x=>Nat.lt_of_lt_of_le (q.2 r x) hB) fun x=>x.2⟩
 ·intro g1 g2 k1 k2 hne h1 h2 b hb hno;rcases hp2 g1 k1 h1 with⟨rfl,rfl⟩|⟨hne1,q1,hq1,rfl⟩
  ·rcases hp2 g2 k2 h2 with⟨rfl,rfl⟩|⟨hne2,q2,hq2,rfl⟩
   ·exact absurd rfl hne
   ·rcases Nat.lt_or_ge b B with z|z
    ·exact .inl (H.excl _ _ _ _ hne hg hq2 b z hno)
    ·exact .inr ⟨z,hb⟩
  ·have hlt:b<B:=by
    rcases Nat.lt_or_ge b B with z|z
    ·exact z
    ·exact absurd (.inr ⟨z,hb⟩) hno
   have hno':¬q1.no b:=fun z=>hno (.inl z);rcases hp2 g2 k2 h2 with⟨rfl,rfl⟩|⟨hne2,q2,hq2,rfl⟩
   ·exact H.excl _ _ _ _ hne hq1 hg b hlt hno'
   ·exact .inl (H.excl _ _ _ _ hne hq1 hq2 b hlt hno')
theorem jnC{t:Trace}{i:Nat}{op:MemOp}(h:t[i]? =some op):t.act? i=some op.act:=by simp[Trace.act?,h]
theorem TInv.mute(H:TInv t B perm){u:Trace}(hw:Wordless u)(hu:∀op∈u,op.act.touch?=none):TInv (t++u) B perm:=by
 have hw':=H.words.append hw;have old:∀i a,touchAt (t++u) i=some a->i<t.size/\touchAt t i=some a:=by
  intro i a ha;rcases jbC ha with h|⟨op,_,_,hop,h⟩
  ·exact h
  ·rw[hu op hop]at h;cases h
 refine⟨fun said=>noRace_appendMute (H.clean said) hu,fun g=>wdeaf hw' g,hw',fun i a ha=>H.low i a (old i a ha).2,fun g kp hg i a ha=>?_,fun i a op ha hop hn=>?_,H.sub,H.excl⟩
 ·have q:=H.known g kp hg i a (old i a ha).2;exact⟨fun x y=>(q.1 x y).app _,fun x=>(q.2 x).app _⟩
 ·rw[getElem?_append_old (old i a ha).1]at hop;exact(H.home i a op (old i a ha).2 hop hn).app _
theorem TInv.perms(H:TInv t B perm){perm':Nat->Option Keep}
  (known:∀g kp,perm' g=some kp->∀i a,touchAt t i=some a->(¬kp.hide (locBlk a.loc)->a.write=true->Knows t g i)/\(¬kp.no (locBlk a.loc)->Knows t g i))
  (home:∀i a op,touchAt t i=some a->t[i]? =some op->perm' op.g=none->Knows t 0 i)
  (sub:∀g kp,perm' g=some kp->(∀r,kp.hide r->kp.no r)/\(∀r,kp.no r->r<B))
  (excl:∀g g' k k',g≠g'->perm' g=some k->perm' g'=some k'->∀b,b<B->¬k.no b->k'.hide b):TInv t B perm':=
 ⟨H.clean,H.deaf,H.words,H.low,known,home,sub,excl⟩
theorem jkY{x y:MemOp}(hx:∀m,x.act≠.mark m)(hy:∀m,y.act≠.mark m):Wordless #[x,y]:=by
 intro op hop m hm;simp at hop;rcases hop with rfl|rfl
 ·exact absurd hm (hx m)
 ·exact absurd hm (hy m)
theorem TInv.spawn(H:TInv t B perm){kp:Keep}(h0:perm 0=some kp){n c:Nat}(hn0:n≠0)(hn:perm n=none)(hfresh:∀op∈t,op.g≠n)(hc:c<B){fn fc:FuncId}{p p':String}{perm':Nat->Option Keep}
  (hp:∀g,perm' g=if g=0\/g=n then some (kp.shared B c)else perm g):
  TInv (t++ #[{g:=0,fn:=fn,pos:=p,act:=.go n},{g:=n,fn:=fc,pos:=p',act:=.start}]) B perm':=by
 have M:=H.mute (u:= #[{g:=0,fn:=fn,pos:=p,act:=.go n},{g:=n,fn:=fc,pos:=p',act:=.start}])
  (jkY (by simp) (by simp)) (by simp[MemAct.touch?])
 generalize hT:t++ #[{g:=0,fn:=fn,pos:=p,act:=MemAct.go n},{g:=n,fn:=fc,pos:=p',act:=MemAct.start}]=T at M;have e1:T[t.size]? =some {g:=0,fn:=fn,pos:=p,act:=.go n}:=by rw[<-hT];simp
 have e2:T[t.size+1]? =some {g:=n,fn:=fc,pos:=p',act:=.start}:=by rw[<-hT];simp
 have edge:HappensBefore T t.size (t.size+1):=
  .single (.inr ⟨.spawn (child:=n) (jnC e1) (jnC e2) (by simp[Trace.g?,e2]),M.words.heard e1,M.words.heard e2⟩)
 have pass:∀i,i<t.size->Knows t 0 i->Knows T n i:=by
  rintro i hi hk;have h1:HappensBefore T i t.size:=by
   have:=hk.hb_new (u:= #[{g:=0,fn:=fn,pos:=p,act:=MemAct.go n},{g:=n,fn:=fc,pos:=p',act:=MemAct.start}]) (Nat.le_refl t.size) (by rw[hT];exact e1) rfl
   rwa [hT]at this
  exact⟨t.size+1,_,e2,rfl,.inr (h1.trans edge)⟩
 have old:∀i a,touchAt T i=some a->i<t.size/\touchAt t i=some a:=by
  intro i a ha;rw[<-hT]at ha;rcases jbC ha with h|⟨op,_,_,hop,h⟩
  ·exact h
  ·simp at hop;rcases hop with rfl|rfl<;>simp[MemAct.touch?]at h
 have kl:=(H.sub 0 kp h0);refine M.perms ?_ ?_ ?_ ?_
 ·intro g k hg i a ha;obtain⟨hi,ha'⟩:=old i a ha;have lo:=H.low i a ha';rw[hp]at hg;by_cases e:g=0\/g=n
  ·rw[if_pos e]at hg;cases hg;have q:=H.known 0 kp h0 i a ha';refine⟨fun x y=>?_,fun x=>absurd lo x⟩;have hk:Knows t 0 i:=q.1 (fun z=>x (.inl z)) y;rcases e with rfl|rfl
   ·have:=hk.app #[{g:=0,fn:=fn,pos:=p,act:=MemAct.go n},{g:=n,fn:=fc,pos:=p',act:=MemAct.start}]
    rwa [hT]at this
   ·exact pass i hi hk
  ·rw[if_neg e]at hg;exact M.known g k hg i a ha
 ·intro i a op ha hop hne;refine M.home i a op ha hop ?_;rw[hp]at hne;by_cases e:op.g=0\/op.g=n
  ·rw[if_pos e]at hne;cases hne
  ·rwa [if_neg e]at hne
 ·intro g k hg;rw[hp]at hg;by_cases e:g=0\/g=n
  ·rw[if_pos e]at hg;cases hg;exact⟨fun r hr=>hr.elim (fun x=>kl.2 r (kl.1 r x)) (fun x=>by rw[x];exact hc),fun r hr=>hr⟩
  ·rw[if_neg e]at hg;exact H.sub g k hg
 ·intro g g' k k' hne hg hg' b hb hno;rw[hp]at hg hg';by_cases e:g=0\/g=n
  ·rw[if_pos e]at hg;cases hg;exact absurd hb hno
  ·rw[if_neg e]at hg;by_cases e':g'=0\/g'=n
   ·rw[if_pos e']at hg';cases hg';exact .inl (H.excl g 0 k kp (fun x=>e (.inl x)) hg h0 b hb hno)
   ·rw[if_neg e']at hg';exact H.excl g g' k k' hne hg hg' b hb hno
theorem TInv.meet(H:TInv t B perm){kp kj:Keep}(h0:perm 0=some kp){j c s:Nat}(hj0:j≠0)(hj:perm j=some kj){f0 fj:FuncId}{p0 pj:String}{Tr:Nat->Prop}(hT:∀r,Tr r->r<B/\¬kj.no r){last:Prop}
  (hlast:last->∀g,g≠0->g≠j->perm g=none) {perm':Nat->Option Keep} (hp:∀g,perm' g=if g=0 then some (kp.take Tr last)else if g=j then none else perm g):
  TInv (t++ #[{g:=j,fn:=fj,pos:=pj,act:=.send c s},{g:=0,fn:=f0,pos:=p0,act:=.recv c s 0},{g:=j,fn:=fj,pos:=pj,act:=.sendDone c s},{g:=0,fn:=f0,pos:=p0,act:=.recvDone c s}]) B perm':=by
 have M:=H.mute (u:= #[{g:=j,fn:=fj,pos:=pj,act:=.send c s},{g:=0,fn:=f0,pos:=p0,act:=.recv c s 0},{g:=j,fn:=fj,pos:=pj,act:=.sendDone c s},{g:=0,fn:=f0,pos:=p0,act:=.recvDone c s}])
  (by
   intro op hop m hm;simp at hop;rcases hop with rfl|rfl|rfl|rfl<;>cases hm) (by simp[MemAct.touch?])
 generalize hU:(#[{g:=j,fn:=fj,pos:=pj,act:=.send c s},{g:=0,fn:=f0,pos:=p0,act:=.recv c s 0},{g:=j,fn:=fj,pos:=pj,act:=.sendDone c s},{g:=0,fn:=f0,pos:=p0,act:=.recvDone c s}]:Trace)=U at M|-;generalize hTT:t++U=T at M|-;have e1:T[t.size]? =some {g:=j,fn:=fj,pos:=pj,act:=.send c s}:=by rw[<-hTT,<-hU];simp
 have e2:T[t.size+3]? =some {g:=0,fn:=f0,pos:=p0,act:=.recvDone c s}:=by rw[<-hTT,<-hU];simp
 have edge:HappensBefore T t.size (t.size+3):=
  .single (.inr ⟨.handOver (jnC e1) (jnC e2),M.words.heard e1,M.words.heard e2⟩)
 have pass:∀i,i<t.size->Knows t j i->Knows T 0 i:=by
  rintro i hi hk;have h1:HappensBefore T i t.size:=by
   have:=hk.hb_new (u:=U) (Nat.le_refl t.size) (by rw[hTT];exact e1) rfl
   rwa [hTT]at this
  exact⟨t.size+3,_,e2,rfl,.inr (h1.trans edge)⟩
 have old:∀i a,touchAt T i=some a->i<t.size/\touchAt t i=some a:=by
  intro i a ha;rw[<-hTT]at ha;rcases jbC ha with h|⟨op,_,_,hop,h⟩
  ·exact h
  ·rw[<-hU]at hop;simp at hop;rcases hop with rfl|rfl|rfl|rfl<;>simp[MemAct.touch?]at h
 have app:∀g i,Knows t g i->Knows T g i:=fun g i h=>by have:=h.app U;rwa [hTT]at this
 have opOld:∀i,i<t.size->T[i]? =t[i]? :=fun i hi=>by rw[<-hTT];exact getElem?_append_old hi
 -- whoever has gone, or j, or goroutine 0: goroutine 0 knows
 have all:∀i a op,touchAt t i=some a->t[i]? =some op->(perm op.g=none\/op.g=j\/op.g=0)->Knows T 0 i:=by
  rintro i a op ha hop (h|h|h)
  ·exact app 0 i (H.home i a op ha hop h)
  ·have:=knows_own hop;rw[h]at this;exact pass i (jop ha) this
  ·have:=knows_own hop;rw[h]at this;exact app 0 i this
 have sj:=H.sub j kj hj;have s0:=H.sub 0 kp h0;refine M.perms ?_ ?_ ?_ ?_
 ·intro g k hg i a ha;obtain⟨hi,ha'⟩:=old i a ha;rw[hp]at hg;by_cases e:g=0
  ·rw [if_pos e] at hg;subst e;cases hg;have q := H.known 0 kp h0 i a ha';have qj := H.known j kj hj i a ha';constructor
   ·intro x y;by_cases z:Tr (locBlk a.loc)
    ·exact pass i hi (qj.2 (hT _ z).2)
    ·exact app 0 i (q.1 (fun w=>x ⟨w,z⟩) y)
   ·intro x;by_cases z:Tr (locBlk a.loc)
    ·exact pass i hi (qj.2 (hT _ z).2)
    ·by_cases l:last
     ·obtain⟨op,hop,_⟩:=touch_of ha';refine all i a op ha' hop ?_;by_cases e0:op.g=0
      ·exact .inr (.inr e0)
      ·by_cases ej:op.g=j
       ·exact .inr (.inl ej)
       ·exact .inl (hlast l _ e0 ej)
     ·exact app 0 i (q.2 fun w=>x ⟨fun l'=>absurd l' l,fun _=>w,z⟩)
  ·rw[if_neg e]at hg;by_cases ej:g=j
   ·rw[if_pos ej]at hg;cases hg
   ·rw[if_neg ej]at hg;exact M.known g k hg i a ha
 ·intro i a op ha hop hne;obtain⟨hi,ha'⟩:=old i a ha;rw[opOld i hi]at hop;rw[hp]at hne;by_cases e:op.g=0
  ·rw[if_pos e]at hne;cases hne
  ·rw[if_neg e]at hne;by_cases ej:op.g=j
   ·exact all i a op ha' hop (.inr (.inl ej))
   ·rw[if_neg ej]at hne;exact all i a op ha' hop (.inl hne)
 ·intro g k hg;rw[hp]at hg;by_cases e:g=0
  ·rw[if_pos e]at hg;cases hg;refine⟨fun r hr=>⟨fun _=>hr.1,fun _=>s0.1 r hr.1,hr.2⟩,fun r hr=>?_⟩;by_cases l:last
   ·exact s0.2 r (s0.1 r (hr.1 l))
   ·exact s0.2 r (hr.2.1 l)
  ·rw[if_neg e]at hg;by_cases ej:g=j
   ·rw[if_pos ej]at hg;cases hg
   ·rw[if_neg ej]at hg;exact H.sub g k hg
 ·intro g g' k k' hne hg hg' b hb hno;rw[hp]at hg hg';by_cases e:g=0
  ·rw[if_pos e]at hg;cases hg;have e':g'≠0:=fun x=>hne (e.trans x.symm);rw[if_neg e']at hg';by_cases ej:g'=j
   ·rw[if_pos ej]at hg';cases hg'
   ·rw[if_neg ej]at hg';have hl:¬last:=fun l=>by rw[hlast l g' e' ej]at hg';cases hg'
    by_cases z:Tr b
    ·exact H.excl j g' kj k' (fun x=>ej x.symm) hj hg' b hb (hT b z).2
    ·exact H.excl 0 g' kp k' (fun x=>e' x.symm) h0 hg' b hb fun w=>hno ⟨fun l=>absurd l hl,fun _=>w,z⟩
  ·rw[if_neg e]at hg;by_cases ej:g=j
   ·rw[if_pos ej]at hg;cases hg
   ·rw[if_neg ej]at hg;by_cases e':g'=0
    ·rw[if_pos e']at hg';cases hg';refine⟨H.excl g 0 k kp e hg h0 b hb hno,fun z=>?_⟩;exact(hT b z).2 (sj.1 b (H.excl g j k kj ej hg hj b hb hno))
    ·rw[if_neg e']at hg';by_cases ej':g'=j
     ·rw[if_pos ej']at hg';cases hg'
     ·rw[if_neg ej']at hg';exact H.excl g g' k k' hne hg hg' b hb hno
theorem TInv.over(H:TInv t B perm)(hall:∀g,g≠0->perm g=none):t.HandedOver:=by
 intro i g hg hne hc;obtain⟨x,hx,_⟩:=hc;obtain⟨op,hop,hxo⟩:=touch_of hx;have hgo:op.g=g:=by simpa[Trace.g?,hop]using hg
 obtain⟨q,z,hz,hzg,hb⟩:=H.home i x op hx hop (by rw[hgo];exact hall g hne);refine⟨q,by simp[Trace.g?,hz,hzg],?_⟩;rcases hb with rfl|hb
 ·rw[hz]at hop;cases hop;exact absurd (hzg.symm.trans hgo) (Ne.symm hne)
 ·exact hb
end
end Go.Ae
