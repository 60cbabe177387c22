/- Texts of the proof, part 3: a second reading of the lowered code, proved sound, and what the functions compute. -/
import Derived.StepT
import Derived.Conc.Events
import Derived.Test.YtkbkpjinekcnhaaGreatF2
set_option linter.unusedSimpArgs false
set_option linter.unusedVariables false
set_option maxRecDepth 20000
set_option maxHeartbeats 4000000
namespace Go.Ae
open Go.Conc
def isView:Obj->Bool
 |.view .. =>true
 |_=>false
def isCells:Obj->Bool
 |.cells .. =>true
 |_=>false
def isOne:Value->Bool
 |.agg _=>false
 |.tuple _=>false
 |_=>true
def Doomed(P:Program){α:Type}(s:Sem α):Prop:=∀w v w',s.run P w≠.ok v w'
def jag(P:Program){α:Type}:Sem α->World->Prop
 |.pure _,_=>True
 |.load m a k,w=>m=.plain/\∀v,w.cell? a=some v->jag P (k v) w
 |.store m a v k,w=>m=.plain/\(isOne v=true->(w.cell? a).isSome=true->w.frozen? a=false->jag P k (w.setCell a v))
 |.new o k,w=>isView o=false/\jag P (k w.heap.size) {w with heap:=w.heap.push o}
 |.shape r k,_=>Doomed P (.shape r k)
 |.freeze a n k,_=>Doomed P (.freeze a n k)
 |.frozen a k,_=>Doomed P (.frozen a k)
 |.getObj r k,w=>∀o,w.heap[r]? =some o->isCells o=false->(o.isChan=true->∃h,k o=.halt h)/\(o.isChan=false->jag P (k o) w)
 |.setObj r o k,w=>isView o=false/\o.isChan=false/\∀o',w.heap[r]? =some o'->isCells o'=false->jag P k {w with heap:=w.heap.setIfInBounds r o}
 |.choose q k,w=>if q.forced then jag P (k 0) w else jag P (k (q.cut (w.tape w.drawn q))) {w with drawn:=w.drawn+1}
 |.sys c k,_=>Doomed P (.sys c k)
 |.program k,w=>jag P (k P) w
 |.mark m k,w=>m=.noRoom/\jag P k w
 |.halt _,_=>True
section
variable {P : Program} {α β : Type}
theorem jdq{m:Mode}{a:Addr}{v:Value}{k:Sem α}{w:World}(h1:isOne v=true)(h2:(w.cell? a).isSome=true)(h3:w.frozen? a=false):(Sem.store m a v k).run P w=k.run P (w.setCell a v):=by
 obtain⟨u,hu⟩:=Option.isSome_iff_exists.1 h2;cases v<;>first|(simp[isOne]at h1;done)|simp[Sem.run,hu,h3]
theorem jcY{r:Nat}{k:Obj->Sem α}{w:World}{o:Obj}(h:w.heap[r]? =some o)(hc:isCells o=false):(Sem.getObj r k).run P w=(k o).run P w:=by
 cases o<;>first|(simp[isCells]at hc;done)|simp[Sem.run,h]
theorem jcZ{r:Nat}{k:Sem α}{w:World}{o o':Obj}(h:w.heap[r]? =some o')(hc:isCells o'=false):(Sem.setObj r o k).run P w=k.run P {w with heap:=w.heap.setIfInBounds r o}:=by
 cases o'<;>first|(simp[isCells]at hc;done)|simp[Sem.run,h]
theorem jdU{s:Sem α}(h:Doomed P s)(f:α->Sem β):Doomed P (s.bind f):=by
 intro w v w' hr;rw[Sem.run_bind']at hr;cases hx:s.run P w with
 |ok a w1=>exact h w a w1 hx
 |halt x w1=>rw[hx]at hr;cases hr
theorem jkZ{s:Sem α}{f:α->Sem β}(h:∀a,Doomed P (f a)):Doomed P (s.bind f):=by
 intro w v w' hr;rw[Sem.run_bind']at hr;cases hx:s.run P w with
 |ok a w1=>rw[hx]at hr;exact h a w1 v w' hr
 |halt x w1=>rw[hx]at hr;cases hr
theorem jhC{s:Sem α}{f:α->Sem β}{w:World}(h:jag P s w)(hf:∀a w',s.run P w=.ok a w'->jag P (f a) w'):jag P (s.bind f) w:=by
 induction s generalizing w with
 |pure a=>exact hf a w rfl
 |load m a k ih=>
  show jag P (.load m a fun v=>(k v).bind f) w;unfold jag at h|-;exact⟨h.1,fun v hv=>ih v (h.2 v hv) fun x w' hx=>hf x w' (by simp only[Sem.run,hv];exact hx)⟩
 |store m a v k ih=>
  show jag P (.store m a v (k.bind f)) w;unfold jag at h|-;exact⟨h.1,fun h1 h2 h3=>ih (h.2 h1 h2 h3) fun x w' hx=>hf x w' (by rw[jdq h1 h2 h3];exact hx)⟩
 |new o k ih=>exact⟨h.1,ih _ h.2 fun x w' hx=>hf x w' hx⟩
 |shape r k ih=>exact jdU (s:=.shape r k) h f
 |freeze a n k ih=>exact jdU (s:=.freeze a n k) h f
 |frozen a k ih=>exact jdU (s:=.frozen a k) h f
 |getObj r k ih=>
  show jag P (.getObj r fun o=>(k o).bind f) w;unfold jag at h|-;intro o ho hc;refine⟨fun hh=>?_,fun hh=>ih o ((h o ho hc).2 hh) fun x w' hx=>hf x w' (by rw[jcY ho hc];exact hx)⟩;obtain⟨q,e⟩:=(h o ho hc).1 hh;exact⟨q,by dsimp only;rw[e];rfl⟩
 |setObj r o k ih=>
  show jag P (.setObj r o (k.bind f)) w;unfold jag at h|-;exact⟨h.1,h.2.1,fun o' ho hc=>ih (h.2.2 o' ho hc) fun x w' hx=>hf x w' (by rw[jcZ ho hc];exact hx)⟩
 |choose q k ih=>
  show jag P (.choose q fun n=>(k n).bind f) w;unfold jag at h|-;by_cases hq:q.forced=true
  ·rw[if_pos hq]at h|-;exact ih _ h fun x w' hx=>hf x w' (by simp only[Sem.run,hq,if_true];exact hx)
  ·rw[if_neg hq]at h|-;exact ih _ h fun x w' hx=>hf x w' (by simp only[Sem.run,hq];exact hx)
 |sys c k ih=>exact jdU (s:=.sys c k) h f
 |program k ih=>exact ih _ h fun x w' hx=>hf x w' hx
 |mark m k ih=>exact⟨h.1,ih h.2 fun x w' hx=>hf x w' hx⟩
 |halt h=>trivial
theorem jab{s:Sem α}{f:α->Sem β}{w:World}(h:jag P s w)(hf:∀a w',s.run P w=.ok a w'->jag P (f a) w'):jag P (s>>=f) w:=jhC h hf
theorem jak{s:Sem α}{f:α->Sem β}{w w':World}{a:α}(h:jag P s w)(hr:s.run P w=.ok a w')(hf:jag P (f a) w'):jag P (s>>=f) w:=
 jhC h fun a' w'' he=>by rw[hr]at he;cases he;exact hf
structure Agree (n:Nat) (Lw Lr:Nat->Prop) (w wg:World):Prop where
 size:wg.heap.size=w.heap.size
 tape:wg.tape=w.tape
 drawn:wg.drawn=w.drawn
 le:n<=w.heap.size
 own:∀r,(Lw r\/n<=r)->wg.heap[r]? =w.heap[r]? /\∀o,w.heap[r]? =some o->isView o=false
 look:∀r,r<n->¬Lw r->Lr r->∃c t fr,w.heap[r]? =some (.cells c t fr)/\wg.heap[r]? =some (.cells c t (0,c.size))
 gone:∀r,r<n->¬Lw r->¬Lr r->∃t fr,wg.heap[r]? =some (.cells #[] t fr)
def Fine(n:Nat)(Lw Lr:Nat->Prop)(B:Nat)(e:Event):Prop:=
 (e.sync=false/\e.loc.isMemory=true/\locBlk e.loc<B/\(Lw (locBlk e.loc)\/n<=locBlk e.loc\/(Lr (locBlk e.loc)/\e.write=false)))\/e=⟨.mark .noRoom,false,true⟩
variable {n : Nat} {Lw Lr : Nat -> Prop}
theorem jpH{w w':World}{a:Addr}(h:w'.heap[a.block]? =w.heap[a.block]?):w'.cell? a=w.cell? a:=by simp only[World.cell?,h]
theorem jmn{w w':World}{a:Addr}(h:w'.heap[a.block]? =w.heap[a.block]?):w'.frozen? a=w.frozen? a:=by simp only[World.frozen?,h]
theorem Agree.farLoad{w wg:World}(A:Agree n Lw Lr w wg)(a:Addr)(b:Bool):∃h,wg.farLoad P a b=.error h:=by
 have key:∀o,wg.heap[a.block]? =some o->isView o=false:=by
  intro o ho;by_cases h1:Lw a.block\/n<=a.block
  ·rw[(A.own _ h1).1]at ho;exact(A.own _ h1).2 o ho
  ·have hlt:a.block<n:=by
    rcases Nat.lt_or_ge a.block n with h|h
    ·exact h
    ·exact absurd (.inr h) h1
   by_cases h2:Lr a.block
   ·obtain⟨c,t,fr,_,e⟩:=A.look _ hlt (fun x=>h1 (.inl x)) h2;rw[e]at ho;cases ho;rfl
   ·obtain⟨t,fr,e⟩:=A.gone _ hlt (fun x=>h1 (.inl x)) h2;rw[e]at ho;cases ho;rfl
 unfold World.farLoad;cases ho:wg.heap[a.block]? with
 |none=>exact⟨_,rfl⟩
 |some o=>
  have:=key o ho;cases o<;>first|exact⟨_,rfl⟩|cases this
theorem Agree.farStore{w wg:World}(A:Agree n Lw Lr w wg)(a:Addr)(v:Value)(b:Bool):∃h,wg.farStore P a v b=.error h:=by
 have key:∀o,wg.heap[a.block]? =some o->isView o=false:=by
  intro o ho;by_cases h1:Lw a.block\/n<=a.block
  ·rw[(A.own _ h1).1]at ho;exact(A.own _ h1).2 o ho
  ·have hlt:a.block<n:=by
    rcases Nat.lt_or_ge a.block n with h|h
    ·exact h
    ·exact absurd (.inr h) h1
   by_cases h2:Lr a.block
   ·obtain⟨c,t,fr,_,e⟩:=A.look _ hlt (fun x=>h1 (.inl x)) h2;rw[e]at ho;cases ho;rfl
   ·obtain⟨t,fr,e⟩:=A.gone _ hlt (fun x=>h1 (.inl x)) h2;rw[e]at ho;cases ho;rfl
 unfold World.farStore;cases ho:wg.heap[a.block]? with
 |none=>exact⟨_,rfl⟩
 |some o=>
  have:=key o ho;cases o<;>first|exact⟨_,rfl⟩|cases this
theorem joq{w:World}{a:Addr}{t:TypeId}{fr:Nat×Nat}(h:w.heap[a.block]? =some (.cells #[] t fr)):w.cell? a=none:=by
 simp only[World.cell?,h];split<;>simp
theorem Agree.cell{w wg:World}(A:Agree n Lw Lr w wg){a:Addr}{v:Value}(h:wg.cell? a=some v):w.cell? a=some v/\a.block<w.heap.size/\(Lw a.block\/n<=a.block\/Lr a.block)/\
  (wg.frozen? a=false->(Lw a.block\/n<=a.block)/\w.frozen? a=false):=by
 have hlt:a.block<wg.heap.size:=by
  rcases Nat.lt_or_ge a.block wg.heap.size with x|x
  ·exact x
  ·simp only[World.cell?,Array.getElem?_eq_none x]at h;cases h
 rw[A.size]at hlt;by_cases h1:Lw a.block\/n<=a.block
 ·have e:=(A.own _ h1).1;exact⟨by rw[<-jpH e];exact h,hlt,h1.imp id .inl,fun hf=>⟨h1,by rw[<-jmn e];exact hf⟩⟩
 ·have hn:a.block<n:=by
   rcases Nat.lt_or_ge a.block n with x|x
   ·exact x
   ·exact absurd (.inr x) h1
  by_cases h2:Lr a.block
  ·obtain⟨c,t,fr,e1,e2⟩:=A.look _ hn (fun x=>h1 (.inl x)) h2;have hc:wg.cell? a=w.cell? a:=by simp only[World.cell?,e1,e2]
   refine⟨by rw[<-hc];exact h,hlt,.inr (.inr h2),fun hf=>?_⟩;exfalso;simp only[World.cell?,e2]at h;simp only[World.frozen?,e2]at hf;split at h
   ·cases h
   ·have:=(Array.getElem?_eq_some_iff.1 h).1;simp at hf;omega
  ·obtain⟨t,fr,e⟩:=A.gone _ hn (fun x=>h1 (.inl x)) h2;rw[joq e]at h;cases h
theorem Agree.obj{w wg:World}(A:Agree n Lw Lr w wg){r:Nat}{o:Obj}(h:wg.heap[r]? =some o)(hc:isCells o=false):w.heap[r]? =some o/\r<w.heap.size/\(Lw r\/n<=r):=by
 have hlt:=(Array.getElem?_eq_some_iff.1 h).1;rw[A.size]at hlt;by_cases h1:Lw r\/n<=r
 ·exact⟨by rw[<-(A.own _ h1).1];exact h,hlt,h1⟩
 ·have hn:r<n:=by
   rcases Nat.lt_or_ge r n with x|x
   ·exact x
   ·exact absurd (.inr x) h1
  exfalso;by_cases h2:Lr r
  ·obtain⟨c,t,fr,_,e⟩:=A.look _ hn (fun x=>h1 (.inl x)) h2;rw[e]at h;cases h;cases hc
  ·obtain⟨t,fr,e⟩:=A.gone _ hn (fun x=>h1 (.inl x)) h2;rw[e]at h;cases h;cases hc
theorem Agree.turn{w wg:World}(A:Agree n Lw Lr w wg){r:Nat}(hr:Lw r\/n<=r){w' wg':World}(s1:w'.heap.size=w.heap.size)(s2:wg'.heap.size=wg.heap.size)(ht:w'.tape=w.tape)(ht2:wg'.tape=wg.tape)(hd:w'.drawn=w.drawn)(hd2:wg'.drawn=wg.drawn)
  (h1:∀q,q≠r->w'.heap[q]? =w.heap[q]?) (h2:∀q,q≠r->wg'.heap[q]? =wg.heap[q]?) (hs:wg'.heap[r]? =w'.heap[r]?) (hv:∀o,w'.heap[r]? =some o->isView o=false):Agree n Lw Lr w' wg':=by
 refine⟨by rw[s1,s2,A.size],by rw[ht,ht2,A.tape],by rw[hd,hd2,A.drawn],by rw[s1];exact A.le,fun q hq=>?_,fun q hq a b=>?_,fun q hq a b=>?_⟩
 ·by_cases e:q=r
  ·subst e;exact⟨hs,hv⟩
  ·rw[h1 q e,h2 q e];exact A.own q hq
 ·have e:q≠r:=by rintro rfl;rcases hr with x|x;exact a x;omega
  rw[h1 q e,h2 q e];exact A.look q hq a b
 ·have e:q≠r:=by rintro rfl;rcases hr with x|x;exact a x;omega
  rw[h2 q e];exact A.gone q hq a b
theorem jfD{w:World}{a:Addr}{v:Value}{q:Nat}(h:q≠a.block):(w.setCell a v).heap[q]? =w.heap[q]? :=by
 simp only[World.setCell,Array.getElem?_modify];rw[if_neg (Ne.symm h)]
theorem jk0{w:World}{a:Addr}{v:Value}{o:Obj}(h:(w.setCell a v).heap[a.block]? =some o):∃o',w.heap[a.block]? =some o'/\isView o=isView o':=by
 simp only[World.setCell,Array.getElem?_modify,if_true]at h;cases ho:w.heap[a.block]? with
 |none=>rw[ho]at h;cases h
 |some o'=>
  rw[ho]at h;simp only[Option.map_some,Option.some.injEq]at h;subst h;refine⟨o',rfl,?_⟩;cases o'<;>rfl
theorem jk1(s:Sem α):∀(w wg:World) (es:Array Event) (v:α) (wg':World),Agree n Lw Lr w wg->jag P s w->s.run P wg=.ok v wg'->
  ∃w',s.run P w=.ok v w'/\w.heap.size<=w'.heap.size/\∀e∈s.events P w es,e∈es\/Fine n Lw Lr w'.heap.size e:=by
 induction s with
 |pure a=>
  intro w wg es v wg' A _ hr;cases hr;exact⟨w,rfl,Nat.le_refl _,fun e he=>.inl he⟩
 | load m a k ih =>
  intro w wg es v wg' A h hr;unfold jag at h;obtain⟨rfl,h2⟩:=h;cases hc:wg.cell? a with
  |none=>
   obtain⟨x,hx⟩:=A.farLoad (P:=P) a (Mode.plain== .atomic);simp only[Sem.run,hc,hx]at hr;cases hr
  | some u =>
   obtain⟨c1,c2,c3,_⟩:=A.cell hc;have hr':(k u).run P wg=.ok v wg':=by simpa only[Sem.run,hc]using hr
   obtain⟨w',q1,q2,q3⟩:=ih u w wg (es.push ⟨.cell a,false,Mode.plain== .atomic⟩) v wg' A (h2 u c1) hr';refine⟨w',by simpa only[Sem.run,c1]using q1,q2,fun e he=>?_⟩;have he':e∈(k u).events P w (es.push ⟨.cell a,false,Mode.plain== .atomic⟩):=by
    simpa only[Sem.events,Sem.runT,c1]using he
   rcases q3 e he' with x|x
   ·rcases Array.mem_push.1 x with x|rfl
    ·exact .inl x
    ·refine .inr (.inl ⟨rfl,rfl,Nat.lt_of_lt_of_le c2 q2,?_⟩);rcases c3 with y|y|y
     ·exact .inl y
     ·exact .inr (.inl y)
     ·exact .inr (.inr ⟨y,rfl⟩)
   ·exact .inr x
 | store m a u k ih =>
  intro w wg es v wg' A h hr;unfold jag at h;obtain⟨rfl,h2⟩:=h;have hone:isOne u=true:=by
   cases u<;>first|rfl|(simp only[Sem.run]at hr;cases hr)
  cases hc:wg.cell? a with
  |none=>
   obtain⟨x,hx⟩:=A.farStore (P:=P) a u (Mode.plain== .atomic);exfalso;cases u<;>first|(simp only[Sem.run,hc,hx]at hr;cases hr)|(simp only[Sem.run]at hr;cases hr)
  | some u0 =>
   obtain⟨c1,c2,_,c4⟩:=A.cell hc;have hf:wg.frozen? a=false:=by
    cases hz:wg.frozen? a with
    |false=>rfl
    |true=>
     exfalso;cases u<;>first|(simp[Sem.run,hc,hz]at hr;done)|(simp only[Sem.run]at hr;cases hr)
   obtain⟨c5,c6⟩:=c4 hf;have hr':k.run P (wg.setCell a u)=.ok v wg':=by rw[jdq hone (by rw[hc];rfl) hf]at hr;exact hr
   have A':Agree n Lw Lr (w.setCell a u) (wg.setCell a u):=by
    refine A.turn c5 (by simp[World.setCell]) (by simp[World.setCell]) rfl rfl rfl rfl (fun q hq=>jfD hq) (fun q hq=>jfD hq) ?_ ?_
    ·simp only[World.setCell,Array.getElem?_modify,if_true];rw[(A.own _ c5).1]
    ·intro o ho;obtain⟨o',h1,h2⟩:=jk0 ho;rw[h2];exact(A.own _ c5).2 o' h1
   have hsz:(w.setCell a u).heap.size=w.heap.size:=by simp[World.setCell]
   obtain⟨w',q1,q2,q3⟩:=ih (w.setCell a u) (wg.setCell a u) (es.push ⟨.cell a,true,Mode.plain== .atomic⟩) v wg' A' (h2 hone (by rw[c1];rfl) c6) hr';rw[hsz]at q2;refine⟨w',by rw[jdq hone (by rw[c1];rfl) c6];exact q1,q2,fun e he=>?_⟩;have he':e∈k.events P (w.setCell a u) (es.push ⟨.cell a,true,Mode.plain== .atomic⟩):=by
    cases u<;>first|(simp[isOne]at hone;done)|simpa[Sem.events,Sem.runT,c1,c6,-Sem.runT_eq]using he
   rcases q3 e he' with x|x
   ·rcases Array.mem_push.1 x with x|rfl
    ·exact .inl x
    ·exact .inr (.inl ⟨rfl,rfl,Nat.lt_of_lt_of_le c2 q2,c5.imp id .inl⟩)
   ·exact .inr x
 | new o k ih =>
  intro w wg es v wg' A h hr;obtain⟨h1,h2⟩:=h;have hr':(k w.heap.size).run P {wg with heap:=wg.heap.push o}=.ok v wg':=by
   have:(k wg.heap.size).run P {wg with heap:=wg.heap.push o}=.ok v wg':=hr
   rwa [A.size]at this
  have A':Agree n Lw Lr {w with heap:=w.heap.push o} {wg with heap:=wg.heap.push o}:=by
   refine⟨by simp[A.size],A.tape,A.drawn,by simp;have:=A.le;omega,fun q hq=>?_,fun q hq a b=>?_,fun q hq a b=>?_⟩
   ·refine⟨?_,fun o' ho'=>?_⟩
    ·simp only[Array.getElem?_push,A.size];split
     ·rfl
     ·exact(A.own q hq).1
    ·simp only[Array.getElem?_push]at ho';split at ho'
     ·cases ho';exact h1
     ·exact(A.own q hq).2 o' ho'
   ·have:=A.le;obtain⟨c,t,fr,e1,e2⟩:=A.look q hq a b;exact⟨c,t,fr,by simp only[Array.getElem?_push];rw[if_neg (by omega)];exact e1,by simp only[Array.getElem?_push,A.size];rw[if_neg (by omega)];exact e2⟩
   ·have:=A.le;obtain⟨t,fr,e⟩:=A.gone q hq a b;exact⟨t,fr,by simp only[Array.getElem?_push,A.size];rw[if_neg (by omega)];exact e⟩
  obtain⟨w',q1,q2,q3⟩:=ih w.heap.size _ _ es v wg' A' h2 hr';simp only[Array.size_push]at q2;exact⟨w',q1,by omega,q3⟩
 |shape r k ih=>intro w wg es v wg' A h hr;exact absurd hr (h _ _ _)
 |freeze a m k ih=>intro w wg es v wg' A h hr;exact absurd hr (h _ _ _)
 |frozen a k ih=>intro w wg es v wg' A h hr;exact absurd hr (h _ _ _)
 | getObj r k ih =>
  intro w wg es v wg' A h hr;unfold jag at h;cases ho:wg.heap[r]? with
  |none=>simp only[Sem.run,ho]at hr;cases hr
  | some o =>
   have hc:isCells o=false:=by
    cases o<;>first|rfl|(simp only[Sem.run,ho]at hr;cases hr)
   obtain⟨e1,e2,e3⟩:=A.obj ho hc;obtain⟨h1,h2⟩:=h o e1 hc;rw[jcY ho hc]at hr;have hch:o.isChan=false:=by
    cases hx:o.isChan with
    |false=>rfl
    |true=>
     obtain⟨q,hq⟩:=h1 hx;rw[hq]at hr;cases hr
   obtain⟨w',q1,q2,q3⟩:=ih o w wg (es.push ⟨.obj r,false,o.isChan⟩) v wg' A (h2 hch) hr;refine⟨w',by rw[jcY e1 hc];exact q1,q2,fun e he=>?_⟩;have he':e∈(k o).events P w (es.push ⟨.obj r,false,o.isChan⟩):=by
    cases o<;>first|(simp[isCells]at hc;done)|simpa[Sem.events,Sem.runT,e1,-Sem.runT_eq]using he
   rcases q3 e he' with x|x
   ·rcases Array.mem_push.1 x with x|rfl
    ·exact .inl x
    ·exact .inr (.inl ⟨hch,rfl,Nat.lt_of_lt_of_le e2 q2,e3.imp id .inl⟩)
   ·exact .inr x
 | setObj r o k ih =>
  intro w wg es v wg' A h hr;obtain⟨h0,hch,h1⟩:=h;cases ho:wg.heap[r]? with
  |none=>simp only[Sem.run,ho]at hr;cases hr
  | some o' =>
   have hc:isCells o'=false:=by
    cases o'<;>first|rfl|(simp only[Sem.run,ho]at hr;cases hr)
   obtain⟨e1,e2,e3⟩:=A.obj ho hc;rw[jcZ ho hc]at hr;have A':Agree n Lw Lr {w with heap:=w.heap.setIfInBounds r o} {wg with heap:=wg.heap.setIfInBounds r o}:=by
    refine A.turn e3 (by simp) (by simp) rfl rfl rfl rfl (fun q hq=>?_) (fun q hq=>?_) ?_ ?_
    ·simp only[];rw[Array.getElem?_setIfInBounds_ne (Ne.symm hq)]
    ·simp only[];rw[Array.getElem?_setIfInBounds_ne (Ne.symm hq)]
    ·simp only[];rw[Array.getElem?_setIfInBounds_self_of_lt e2,Array.getElem?_setIfInBounds_self_of_lt (by rw[A.size];exact e2)]
    ·intro x hx;simp only[]at hx;rw[Array.getElem?_setIfInBounds_self_of_lt e2]at hx;cases hx;exact h0
   obtain⟨w',q1,q2,q3⟩:=ih _ _ (es.push ⟨.obj r,true,o.isChan⟩) v wg' A' (h1 o' e1 hc) hr;simp only[Array.size_setIfInBounds]at q2;refine⟨w',by rw[jcZ e1 hc];exact q1,q2,fun e he=>?_⟩;have he':e∈k.events P {w with heap:=w.heap.setIfInBounds r o} (es.push ⟨.obj r,true,o.isChan⟩):=by
    cases o'<;>first|(simp[isCells]at hc;done)|simpa[Sem.events,Sem.runT,e1,-Sem.runT_eq]using he
   rcases q3 e he' with x|x
   ·rcases Array.mem_push.1 x with x|rfl
    ·exact .inl x
    ·exact .inr (.inl ⟨hch,rfl,Nat.lt_of_lt_of_le e2 q2,e3.imp id .inl⟩)
   ·exact .inr x
 | choose q k ih =>
  intro w wg es v wg' A h hr;unfold jag at h;by_cases hq:q.forced=true
  ·rw[if_pos hq]at h;have hr':(k 0).run P wg=.ok v wg':=by simpa only[Sem.run,hq,if_true]using hr
   obtain⟨w',q1,q2,q3⟩:=ih 0 w wg es v wg' A h hr';exact⟨w',by simpa only[Sem.run,hq,if_true]using q1,q2,fun e he=>q3 e (by simpa[Sem.events,Sem.runT,hq,-Sem.runT_eq]using he)⟩
  ·rw[if_neg hq]at h;have hr':(k (q.cut (w.tape w.drawn q))).run P {wg with drawn:=wg.drawn+1}=.ok v wg':=by
    have:(k (q.cut (wg.tape wg.drawn q))).run P {wg with drawn:=wg.drawn+1}=.ok v wg':=by simpa only[Sem.run,hq,if_false,Bool.false_eq_true]using hr
    have key:q.cut (wg.tape wg.drawn q)=q.cut (w.tape w.drawn q):=by rw[A.tape,A.drawn]
    rw[key]at this;exact this
   have A':Agree n Lw Lr {w with drawn:=w.drawn+1} {wg with drawn:=wg.drawn+1}:=⟨A.size,A.tape,by simp only[];rw[A.drawn],A.le,A.own,A.look,A.gone⟩;obtain⟨w',q1,q2,q3⟩:=ih _ _ _ es v wg' A' h hr';exact⟨w',by simpa only[Sem.run,hq,if_false,Bool.false_eq_true]using q1,q2,fun e he=>q3 e (by simpa[Sem.events,Sem.runT,hq,-Sem.runT_eq]using he)⟩
 |sys c k ih=>intro w wg es v wg' A h hr;exact absurd hr (h _ _ _)
 |program k ih=>
  intro w wg es v wg' A h hr;exact ih P w wg es v wg' A h hr
 | mark m k ih =>
  intro w wg es v wg' A h hr;obtain⟨rfl,h⟩:=h;obtain⟨w',q1,q2,q3⟩:=ih w wg (es.push ⟨.mark .noRoom,false,true⟩) v wg' A h hr;refine⟨w',q1,q2,fun e he=>?_⟩;rcases q3 e he with x|x
  ·rcases Array.mem_push.1 x with x|rfl
   ·exact .inl x
   ·exact .inr (.inr rfl)
  ·exact .inr x
 |halt h=>intro w wg es v wg' A _ hr;cases hr
end
end Go.Ae
