/- Texts of the proof, part 6: a second reading of the lowered code, proved sound, and what the functions compute. -/
import Derived.Conc.LeavingOf
import Derived.WalkKit
import Derived.Test.YtkbkpjinekcnhaaGreatF5
set_option linter.unusedSimpArgs false
set_option linter.unusedVariables false
set_option maxRecDepth 20000
set_option maxHeartbeats 4000000
namespace Go.Ae
open Go.Conc
structure Rely (kp:Keep) (w:World) (kp1:Keep) (w1:World):Prop where
 size:w.heap.size<=w1.heap.size
 os:w1.os=w.os
 tape:w1.tape=w.tape
 output:w1.output=w.output
 row:∀r,r<w.heap.size->¬kp.hide r->w1.heap[r]? =w.heap[r]?
 eq:kp1=kp.wider w.heap.size w1.heap.size
theorem kaw(kp:Keep)(w:World):Rely kp w kp w:=⟨Nat.le_refl _,rfl,rfl,rfl,fun _ _ _=>rfl,(kaB _ _).symm⟩
theorem Rely.trans{ka kb kc:Keep}{a b c:World}(h:Rely ka a kb b)(k:Rely kb b kc c):Rely ka a kc c:=by
 refine⟨Nat.le_trans h.size k.size,k.os.trans h.os,k.tape.trans h.tape,k.output.trans h.output,fun r hr hn=>?_,?_⟩
 ·rw[k.row r (Nat.lt_of_lt_of_le hr h.size) (by
   rw[h.eq];rintro(x|x)
   ·exact hn x
   ·omega),h.row r hr hn]
 ·rw[k.eq,h.eq,kaO _ h.size k.size]
theorem Rely.at{kp kp1:Keep}{w w1:World}(h:Rely kp w kp1 w1)(d:Nat):Rely kp w kp1 (w1.at d):=⟨h.size,h.os,h.tape,h.output,h.row,h.eq⟩
def jjc(P:Program)(main:Bool)(kp:Keep)(g:Goroutine)(w:World):Prop:=
 g.status=.running/\∃g' w' es,stepG P main g w=.go g' w' es/\g'.status=.running/\KeepW kp w w'/\∀e∈es,EvIn kp w'.heap.size e
abbrev Prom:=Value->World->(Nat->Prop)->Prop
inductive JW (P:Program) (c:Nat) (Φ:Prom):Keep->Goroutine->World->Prop
 | step {kp : Keep} {g : Goroutine} {w : World} : (∀ kp1 w1, Rely kp w kp1 w1 -> jjc P false kp1 g w1) ->
   (∀kp1 w1 g' w' es,Rely kp w kp1 w1->stepG P false g w1=.go g' w' es->JW P c Φ kp1 g' w')->JW P c Φ kp g w
 | send {kp : Keep} {g : Goroutine} {w : World} (v z : Value) (T : Nat -> Prop) (n : Nat) : g.status = .running ->
   (∀kp1 w1,Rely kp w kp1 w1->stepG P false g w1=.comm g #[scase c v z] true .send w1 #[])->(∀kp1 w1,Rely kp w kp1 w1->Φ v w1 T)->
   (∀r,T r->r<w.heap.size/\¬kp.no r)->QuitsIn P n (Conc.served g undef)->JW P c Φ kp g w
inductive JM (P:Program) (Fin:Value->World->Prop):Nat->List Prom->Keep->Goroutine->World->Prop
 | step {c : Nat} {ps : List Prom} {kp : Keep} {g : Goroutine} {w : World} : (∀ kp1 w1, Rely kp w kp1 w1 -> jjc P true kp1 g w1) ->
   (∀kp1 w1 g' w' es,Rely kp w kp1 w1->stepG P true g w1=.go g' w' es->JM P Fin c ps kp1 g' w')->JM P Fin c ps kp g w
 | spawn {c : Nat} {ps : List Prom} {kp : Keep} {g : Goroutine} {w : World} (c' : Nat) (Φ : Prom) : g.status = .running ->
   ((ps=[]/\¬kp.no c'/\¬kp.hide c'/\w.heap[c']? =some (.chan 0 #[] false 0 0 false))\/(ps≠[]/\c'=c))->
   (∀kp1 w1,Rely kp w kp1 w1->∃g' ch,stepG P true g w1=.spawn g' ch w1 #[]/\g'.status=.running/\ch.status=.running)->
   (∀kp1 w1 g' ch,Rely kp w kp1 w1->stepG P true g w1=.spawn g' ch w1 #[]->JW P c' Φ (kp1.shared w1.heap.size c') ch w1)->
   (∀kp1 w1 g' ch,Rely kp w kp1 w1->stepG P true g w1=.spawn g' ch w1 #[]->JM P Fin c' (ps++[Φ]) (kp1.shared w1.heap.size c') g' w1)->JM P Fin c ps kp g w
 | recv {c : Nat} {ps : List Prom} {kp : Keep} {g : Goroutine} {w : World} (z : Value) : g.status = .running -> ps ≠ [] ->
   (∀kp1 w1,Rely kp w kp1 w1->stepG P true g w1=.comm g #[rcase c z] true (.recv false) w1 #[])->
   (∀A Φ B v T kp1 w1 s r,ps=A++Φ::B->Rely kp w kp1 w1->Φ v w1 T->(∀r,T r->r<w1.heap.size/\kp1.hide r/\r≠c)->
    JM P Fin c (A++B) (kp1.take T (A++B=[])) (Conc.served g v) (w1.setChan c 0 #[] false s r false))->JM P Fin c ps kp g w
 |done {c:Nat} {kp:Keep} {g:Goroutine} {w:World}:(∀kp1 w1,Rely kp w kp1 w1->g.status=.running/\∃v es,stepG P true g w1=.ended (.done v) w1 es/\(∀e∈es,EvIn kp1 w1.heap.size e)/\Fin v w1)->JM P Fin c [] kp g w
structure KeepJ (kp extra:Keep) (w:World) (kp':Keep) (w':World):Prop where
 size:w.heap.size<=w'.heap.size
 os:w'.os=w.os
 tape:w'.tape=w.tape
 output:w'.output=w.output
 block:∀r,r<w.heap.size->extra.no r->¬kp.hide r->w'.heap[r]? =w.heap[r]?
 no:∀r,kp.no r->kp'.no r
 no':∀r,kp'.no r->kp.no r\/w.heap.size<=r
 hide:∀r,kp.hide r->kp'.hide r
 hide':∀r,extra.no r->kp'.hide r->kp.hide r\/w.heap.size<=r
theorem kaI(kp extra:Keep)(w:World):KeepJ kp extra w kp w:=⟨Nat.le_refl _,rfl,rfl,rfl,fun _ _ _ _=>rfl,fun _ h=>h,fun _ h=>.inl h,fun _ h=>h,fun _ _ h=>.inl h⟩
theorem KeepJ.trans{ka kb kc extra:Keep}{a b c:World}(h:KeepJ ka extra a kb b)(k:KeepJ kb extra b kc c):KeepJ ka extra a kc c:=by
 have hs:=h.size;refine⟨Nat.le_trans h.size k.size,k.os.trans h.os,k.tape.trans h.tape,k.output.trans h.output,fun r hr he hn=>?_,fun r x=>k.no r (h.no r x),fun r x=>?_,fun r x=>k.hide r (h.hide r x),fun r he x=>?_⟩
 ·rw[k.block r (Nat.lt_of_lt_of_le hr h.size) he (fun x=>(h.hide' r he x).elim hn fun y=>by omega),h.block r hr he hn]
 ·rcases k.no' r x with y|y
  ·exact h.no' r y
  ·exact .inr (by omega)
 ·rcases k.hide' r he x with y|y
  ·exact h.hide' r he y
  ·exact .inr (by omega)
theorem Rely.keepJ{kp kp1:Keep}{w w1:World}(r:Rely kp w kp1 w1)(extra:Keep):KeepJ kp extra w kp1 w1:=
 ⟨r.size,r.os,r.tape,r.output,fun q hq _ hn=>r.row q hq hn,fun q x=>by rw[r.eq];exact .inl x,fun q x=>by rw[r.eq]at x;exact x.imp id fun y=>y.1,
  fun q x=>by rw[r.eq];exact .inl x,fun q _ x=>by rw[r.eq]at x;exact x.imp id fun y=>y.1⟩
theorem KeepW.keepJ{kp extra:Keep}{w w':World}(k:KeepW (kp.or extra) w w'):KeepJ kp extra w kp w':=
 ⟨k.size,k.os,k.tape,k.output,fun q _ he _=>k.block q (.inl (.inr he)),fun _ h=>h,fun _ h=>.inl h,fun _ h=>h,fun _ _ h=>.inl h⟩
theorem KeepW.part{kp extra:Keep}{w w':World}(k:KeepW (kp.or extra) w w'):KeepW kp w w':=⟨k.os,k.tape,k.output,k.size,fun q hq=>k.block q (hq.imp .inl .inl)⟩
theorem EvIn.part{kp extra:Keep}{B:Nat}{e:Event}(h:EvIn (kp.or extra) B e):EvIn kp B e:=
 h.imp (fun⟨a,b,c,d,f⟩=>⟨a,b,c,fun x=>d (.inl x),fun hw x=>f hw (.inl x)⟩) id
structure Closed (P:Program) (main:Bool) (J:Keep->Goroutine->World->Prop):Prop where
 step:∀{kp:Keep} {g:Goroutine} {w:World},(∀kp1 w1,Rely kp w kp1 w1->jjc P main kp1 g w1)->(∀kp1 w1 g' w' es,Rely kp w kp1 w1->stepG P main g w1=.go g' w' es->J kp1 g' w')->J kp g w
 rely:∀{kp kp1:Keep} {g:Goroutine} {w w1:World},J kp g w->Rely kp w kp1 w1->J kp1 g w1
theorem Closed.go{P:Program}{main:Bool}{J:Keep->Goroutine->World->Prop}(hc:Closed P main J){kp:Keep}{g:Goroutine}{w:World}(hrun:g.status=.running)
  (h:∀kp1 w1,Rely kp w kp1 w1->∃g' w' es,stepG P main g w1=.go g' w' es/\g'.status=.running/\KeepW kp1 w1 w'/\(∀e∈es,EvIn kp1 w'.heap.size e)/\J kp1 g' w'):J kp g w:=
 hc.step (fun kp1 w1 r=>let ⟨g',w',es,a,b,c,d,_⟩:=h kp1 w1 r;⟨hrun,g',w',es,a,b,c,d⟩)
  fun kp1 w1 g' w' es r hs=>by
   obtain⟨g2,w2,es2,a,_,_,_,e⟩:=h kp1 w1 r;rw[a]at hs;cases hs;exact e
theorem Closed.ctl{P:Program}{main:Bool}{J:Keep->Goroutine->World->Prop}(hc:Closed P main J){kp:Keep}{g g':Goroutine}{w:World}(hrun:g.status=.running)(hrun':g'.status=.running)
  (hs:∀w,stepG P main g w=.go g' w #[]) (h:J kp g' w):J kp g w:=
 hc.go hrun fun kp1 w1 r=>⟨g',w1, #[],hs w1,hrun',kaz _ _,fun e he=>(by simp at he),hc.rely h r⟩
theorem kaG(P:Program)(main:Bool)(p:Prop):Closed P main fun _ _ _=>p:=
 ⟨fun{kp g w} hs hn=>by
  obtain⟨_,g',w',es,h,_⟩:=hs _ _ (kaw _ _);exact hn _ _ _ _ _ (kaw _ _) h,fun h _=>h⟩
theorem JW.rely{P:Program}{c:Nat}{Φ:Prom}{kp kp1:Keep}{g:Goroutine}{w w1:World}(h:JW P c Φ kp g w)(r:Rely kp w kp1 w1):JW P c Φ kp1 g w1:=by
 cases h with
 |step a b=>exact .step (fun kp2 w2 r2=>a _ _ (r.trans r2)) fun kp2 w2 g' w' es r2 hs=>b _ _ _ _ _ (r.trans r2) hs
 |send v z T n hrun hs hΦ hT hq=>
  refine .send v z T n hrun (fun kp2 w2 r2=>hs _ _ (r.trans r2)) (fun kp2 w2 r2=>hΦ _ _ (r.trans r2)) (fun q hq=>?_) hq;obtain⟨h1,h2⟩:=hT q hq;refine⟨Nat.lt_of_lt_of_le h1 r.size,?_⟩;rw[r.eq];rintro(x|⟨x,_⟩)
  ·exact h2 x
  ·omega
theorem jfF(P:Program)(c:Nat)(Φ:Prom):Closed P false (JW P c Φ):=⟨fun a b=>.step a b,fun h r=>h.rely r⟩
theorem JM.rely{P:Program}{Fin:Value->World->Prop}{c:Nat}{ps:List Prom}{kp kp1:Keep}{g:Goroutine}{w w1:World}(h:JM P Fin c ps kp g w)(r:Rely kp w kp1 w1):JM P Fin c ps kp1 g w1:=by
 cases h with
 |step a b=>exact .step (fun kp2 w2 r2=>a _ _ (r.trans r2)) fun kp2 w2 g' w' es r2 hs=>b _ _ _ _ _ (r.trans r2) hs
 | spawn c' Φ hrun hc hs hJ hM =>
  refine .spawn c' Φ hrun ?_ (fun kp2 w2 r2=>hs _ _ (r.trans r2)) (fun kp2 w2 g' ch r2 h=>hJ _ _ _ _ (r.trans r2) h) (fun kp2 w2 g' ch r2 h=>hM _ _ _ _ (r.trans r2) h);rcases hc with⟨h1,h2,h3,h4⟩|h
  ·have hlt:=(Array.getElem?_eq_some_iff.1 h4).1;have out:∀{p:Nat->Prop},¬p c'->¬(p c'\/(w.heap.size<=c'/\c'<w1.heap.size)):=fun hp x=>x.elim hp fun y=>by omega
   exact .inl ⟨h1,by rw[r.eq];exact out h2,by rw[r.eq];exact out h3,by rw[r.row c' hlt h3];exact h4⟩
  ·exact .inr h
 |recv z hrun hps hs hM=>exact .recv z hrun hps (fun kp2 w2 r2=>hs _ _ (r.trans r2)) fun A Φ B v T kp2 w2 s q e r2=>hM A Φ B v T kp2 w2 s q e (r.trans r2)
 |done h=>exact .done fun kp2 w2 r2=>h _ _ (r.trans r2)
inductive WSt where
 |busy (Φ:Prom) (kp:Keep) (g:Goroutine) (w:World)
 |wait (Φ:Prom) (kp:Keep) (g:Goroutine) (w:World) (v z:Value) (T:Nat->Prop) (n:Nat)
 |gone (n:Nat) (g:Goroutine)
def WSt.prom?:WSt->Option Prom
 |.busy Φ .. =>some Φ
 |.wait Φ .. =>some Φ
 |.gone .. =>none
def cur(kp:Keep)(w W:World):Keep:=kp.wider w.heap.size W.heap.size
def WSt.perm(W:World):WSt->Option Keep
 |.busy _ kp _ w=>some (cur kp w W)
 |.wait _ kp _ w .. =>some (cur kp w W)
 |.gone .. =>none
def WSt.gor(c:Nat):WSt->Goroutine
 |.busy _ _ g _=>g
 |.wait _ _ g _ v z _ _=>parked g #[scase c v z] .send
 |.gone _ g=>g
def WSt.ok(P:Program)(c:Nat)(W:World):WSt->Prop
 |.busy Φ kp g w=>JW P c Φ kp g w/\Rely kp w (cur kp w W) W/\kp.hide c
 |.wait Φ kp g w v _ T n=>Rely kp w (cur kp w W) W/\kp.hide c/\(∀kp1 w1,Rely kp w kp1 w1->Φ v w1 T)/\(∀r,T r->r<w.heap.size/\¬kp.no r)/\QuitsIn P n (Conc.served g undef)
 |.gone n g=>QuitsIn P n g
inductive WLt (P:Program):WSt->WSt->Prop
 |own {Φ kp g w kp1 w1 g' w' es}:Rely kp w kp1 w1->stepG P false g w1=.go g' w' es->WLt P (.busy Φ kp1 g' w') (.busy Φ kp g w)
 |wait {Φ kp g w v z T n}:WLt P (.wait Φ kp g w v z T n) (.busy Φ kp g w)
 |went {Φ kp g w n g'}:WLt P (.gone n g') (.busy Φ kp g w)
 |met {Φ kp g w v z T n m g'}:WLt P (.gone m g') (.wait Φ kp g w v z T n)
 |slip {n m g g'}:m<n->WLt P (.gone m g') (.gone n g)
theorem jhk(P:Program):∀(n:Nat) (g:Goroutine),Acc (WLt P) (.gone n g):=by
 intro n
 induction n using Nat.strongRecOn with
 |_ n ih=>exact fun g=>⟨_,fun y hy=>by cases hy;exact ih _ ‹_› _⟩
theorem jjO(P:Program)(Φ:Prom)(kp:Keep)(g:Goroutine)(w:World)(v z:Value)(T:Nat->Prop)(n:Nat):Acc (WLt P) (.wait Φ kp g w v z T n):=⟨_,fun y hy=>by cases hy;exact jhk P _ _⟩
theorem JW.acc{P:Program}{c:Nat}{Φ:Prom}{kp:Keep}{g:Goroutine}{w:World}(h:JW P c Φ kp g w):Acc (WLt P) (.busy Φ kp g w):=by
 induction h with
 | step _ _ ih => exact ⟨_, fun y hy => by
   cases hy with
   |own hr hs=>exact ih _ _ _ _ _ hr hs
   |wait=>exact jjO ..
   |went=>exact jhk ..⟩
 | @send kp g w v z T n hrun hst hΦ hT hq => exact ⟨_, fun y hy => by
   cases hy with
   |@own _ _ _ _ kp1 w1 g' w' es hr hs=>rw[hst _ _ hr]at hs;cases hs
   |wait=>exact jjO ..
   |went=>exact jhk ..⟩
def LLt(P:Program)(a b:List WSt):Prop:=∃A x y B,b=A++x::B/\a=A++y::B/\WLt P y x
theorem jnE{P:Program}:∀(l:List WSt),(∀x∈l,Acc (WLt P) x)->Acc (LLt P) l
 |[],_=>⟨_,fun a ⟨A,x,y,B,h,_⟩=>by cases A<;>cases h⟩
 | x :: l, h => by
  have hx:=h x (by simp);have hl:=jnE l fun y hy=>h y (by simp[hy]);clear h
  induction hx generalizing l with
  | intro x hx ihx =>
   induction hl with
   | intro l hl ihl =>
    refine⟨_,fun a ⟨A,p,q,B,h1,h2,h3⟩=>?_⟩;cases A with
    |nil=>
     simp only[List.nil_append,List.cons.injEq]at h1 h2;obtain⟨rfl,rfl⟩:=h1;subst h2;exact ihx _ h3 l ⟨l,hl⟩
    |cons u A=>
     simp only[List.cons_append,List.cons.injEq]at h1 h2;obtain⟨rfl,rfl⟩:=h1;subst h2;exact ihl _ ⟨A,p,q,B,rfl,rfl,h3⟩
theorem kbQ{P:Program}{c:Nat}{W:World}:∀{x:WSt},x.ok P c W->Acc (WLt P) x
 |.busy ..,h=>h.1.acc
 |.wait ..,_=>jjO ..
 |.gone ..,_=>jhk ..
end Go.Ae
namespace Go.Ae
def kas:Keep:=⟨fun _=>False,fun _=>False⟩
theorem ka8(kp:Keep):kas.or kp=kp:=kaT (fun r=>by simp only[Keep.or,kas,false_or]) (fun r=>by simp only[Keep.or,kas,false_or])
structure Ctx where
 P:Program
 lk:Nat->FuncId
 inv:FuncId->Option Nat
 hinv:∀f g,inv f=some g->lk g=f
 mixed:P.follows .mixedOrders=true
 main:Bool
 fam:(Keep->Goroutine->World->Prop)->Prop
 closed:∀J,fam J->Closed P main J
 ends : ∀ p : Prop, ∃ J, fam J /\ (∀ kp g w, p -> J kp g w) /\ ∀ g w, J kas g w -> p
def Ctx.body(C:Ctx)(g:Nat):Option ABody:=jjN C.P C.inv (C.lk g)
def kau:Out->Option Code
 |.normal=>none
 |.exit id=>some (.exit id)
 |.ret=>some .ret
def jjd(C:Ctx)(env:Env)(w:World)(e:EB):ABlk->Prop
 |.cells vs false _=>∀k v,vs[k]? =some v->w.cell? ⟨e.blk,e.sh+k,none⟩=some (v.val C.lk env)
 | .cells vs true u => ∃ cur t, w.heap[e.blk]? = some (.cells cur t (0, 0)) /\ (∀ k v, vs[k]? = some v -> cur[e.sh + k]? = some (v.val C.lk env)) /\
   (0<u->vs.length<=e.cap*u/\e.sh+e.cap*u<=cur.size)
 | .loop r => ∃ fn tmps params assign body, w.heap[e.blk]? = some (.loop { state := r.state, pending := r.pend.bind kau, fn, tmps, params, assign, body, defers := (env r.defers).blk }) /\
   tmps.size=r.nt/\(∀s,tmps.getD s undef=(r.t s).val C.lk env)/\params.toList=r.params/\(∀p∈r.params,p<r.nt)/\
   r.assign=jad C.P C.inv r.nt assign/\r.body=jad C.P C.inv r.nt body/\r.pend≠some .normal
 |.defd o=>w.heap[e.blk]? =some (.deferred (if o then some []else none))
 |.map es=>∃ents clock,w.heap[e.blk]? =some (.map ents clock)/\ents.toList.map (fun x=>(x.key,x.val))=es.map fun p=>(p.1.val C.lk env,p.2.val C.lk env)
 |.chan=>w.heap[e.blk]? =some (.chan 0 #[] false 0 0 false)
 |.dead=>True
structure Rel (C:Ctx) (keep:Keep) (env:Env) (h:Heap) (w:World):Prop where
 lt:∀i b,h.get i=some b->(env i).blk<w.heap.size
 blk:∀i b,h.get i=some b->jjd C env w (env i) b
 disj:∀i j b c,h.get i=some b->h.get j=some c->i≠j->b.wr=true->c≠.dead->(env j).blk≠(env i).blk
 bel:∀i b,h.get i=some b->b.bel h.ok
 kept:∀i b,h.get i=some b->b.wr=true->¬keep (env i).blk
 keepLt:∀r,keep r->r<w.heap.size
 hid:∀i b,h.get i=some b->b≠.dead->¬keep.hide (env i).blk
 hidLt:∀r,keep.hide r->r<w.heap.size
structure HLe (h h':Heap):Prop where
 size:h.size<=h'.size
 same:∀i,i<h.size->(h'.get i).isSome=(h.get i).isSome
theorem kax(h:Heap):HLe h h:=⟨Nat.le_refl _,fun _ _=>rfl⟩
theorem HLe.trans{a b c:Heap}(h:HLe a b)(k:HLe b c):HLe a c:=
 ⟨Nat.le_trans h.size k.size,fun i hi=>(k.same i (Nat.lt_of_lt_of_le hi h.size)).trans (h.same i hi)⟩
theorem HLe.ok{h h':Heap}(hl:HLe h h'){i:Nat}(hi:h.ok i):h'.ok i:=by
 have:=hl.same i (kaA hi);simp only[Heap.ok]at*;rw[this];exact hi
def Ext(h:Heap)(env env':Env):Prop:=∀i,h.ok i->env' i=env i
theorem kam(h:Heap)(env:Env):Ext h env env:=fun _ _=>rfl
theorem Ext.trans{h h':Heap}{a b c:Env}(e:Ext h a b)(hl:HLe h h')(e':Ext h' b c):Ext h a c:=fun i hi=>(e' i (hl.ok hi)).trans (e i hi)
theorem Ext.val{C:Ctx}{h:Heap}{env env':Env}(e:Ext h env env'){v:AV}(hv:v.bel h.ok):v.val C.lk env'=v.val C.lk env:=jes e v hv
theorem jjd.mono{C:Ctx}{h:Heap}{env env':Env}{w w':World}{e:EB}{b:ABlk}(x:Ext h env env')(hb:b.bel h.ok)
  (hw:w'.heap[e.blk]? =w.heap[e.blk]?) (r:jjd C env w e b):jjd C env' w' e b:=by
 cases b with
 | cells vs wr u =>
  cases wr with
  |false=>
   intro k v hk;rw[x.val (hb v (List.mem_of_getElem? hk)),World.cell?_of_block (w:=w) (w':=w') (a:=⟨e.blk,e.sh+k,none⟩) hw];exact r k v hk
  |true=>
   obtain⟨cur,t,h1,h2,h3⟩:=r;refine⟨cur,t,by rw[hw];exact h1,fun k v hk=>?_,h3⟩;rw[x.val (hb v (List.mem_of_getElem? hk))];exact h2 k v hk
 |loop r'=>
  obtain⟨fn,tmps,params,assign,body,h1,h2,h3,h4⟩:=r;refine⟨fn,tmps,params,assign,body,?_,h2,fun s=>?_,h4⟩
  ·rw[hw,h1,x _ hb.2]
  ·rw[h3,x.val (hb.1 s)]
 |defd o=>exact hw.trans r
 |chan=>exact hw.trans r
 |map es=>
  obtain⟨ents,clock,h1,h2⟩:=r;refine⟨ents,clock,hw.trans h1,h2.trans (List.map_congr_left fun p hp=>?_)⟩;rw[x.val (hb p hp).1,x.val (hb p hp).2]
 |dead=>trivial
theorem jgg{h:Heap}{b:ABlk}{i:Nat}:(h.push b).ok i↔i=h.size\/h.ok i:=by
 simp only[Heap.ok,kap];by_cases e:i=h.size<;>simp[e]
theorem jnF{h:Heap}{n:Nat}(hn:n<h.size){b:ABlk}{i:Nat}:(h.put n b).ok i↔i=n\/h.ok i:=by
 simp only[Heap.ok,kaj _ _ _ _ hn];by_cases e:i=n<;>simp[e]
theorem jew{h:Heap}{n:Option Nat}(hr:h.room n=true):h.get (h.nid n)=none:=by
 cases n with
 |none=>exact h.wf _ (Nat.le_refl _)
 |some n=>simp[Heap.room]at hr;exact hr.1
theorem jdr{h:Heap}{n:Option Nat}(hr:h.room n=true)(b:ABlk)(i:Nat):(h.new n b).get i=if i=h.nid n then some b else h.get i:=by
 cases n with
 |none=>rfl
 |some n=>simp[Heap.room]at hr;exact kaj _ _ _ _ hr.2
theorem jc0{h:Heap}{n:Option Nat}(hr:h.room n=true){b:ABlk}{i:Nat}:(h.new n b).ok i↔i=h.nid n\/h.ok i:=by
 simp only[Heap.ok,jdr hr];by_cases e:i=h.nid n<;>simp[e]
theorem jjP{h:Heap}{n:Option Nat}(hr:h.room n=true)(hn:n=none)(b:ABlk):HLe h (h.new n b):=by
 subst hn;refine⟨Nat.le_succ _,fun i hi=>?_⟩;rw[jdr hr,if_neg (by simp[Heap.nid];omega)]
structure HGrow (h h':Heap):Prop where
 size:h.size<=h'.size
 same:∀i,h.ok i->h'.ok i
theorem kay(h:Heap):HGrow h h:=⟨Nat.le_refl _,fun _=>id⟩
theorem HGrow.trans{a b c:Heap}(h:HGrow a b)(k:HGrow b c):HGrow a c:=⟨Nat.le_trans h.size k.size,fun i hi=>k.same i (h.same i hi)⟩
theorem HLe.grow{h h':Heap}(hl:HLe h h'):HGrow h h':=⟨hl.size,fun _ hi=>hl.ok hi⟩
theorem jdX{h:Heap}{n:Option Nat}(hr:h.room n=true)(b:ABlk):HGrow h (h.new n b):=
 ⟨by cases n<;>simp[Heap.new],fun i hi=>(jc0 hr).2 (.inr hi)⟩
theorem Ext.trans'{h h':Heap}{a b c:Env}(e:Ext h a b)(hl:HGrow h h')(e':Ext h' b c):Ext h a c:=fun i hi=>(e' i (hl.same i hi)).trans (e i hi)
def updE(env:Env)(n:Nat)(e:EB):Env:=fun i=>if i=n then e else env i
theorem jbY{h:Heap}{n:Nat}(hn:h.get n=none)(env:Env)(e:EB):Ext h env (updE env n e):=fun i hi=>by
 unfold updE;rw[if_neg];intro x;subst x;simp[Heap.ok,hn]at hi
theorem jbl(w:World)(o:Obj)(r:Nat):(w.alloc o).heap[r]? =if r=w.heap.size then some o else w.heap[r]? :=by
 show(w.heap.push o)[r]? =_;rw[Array.getElem?_push]
theorem Rel.alloc{C:Ctx}{keep:Keep}{env:Env}{h:Heap}{w:World}(R:Rel C keep env h w){n:Option Nat}(hr:h.room n=true){b:ABlk}(e:EB)(he:e.blk=w.heap.size)
  (o:Obj) (hbel:b.bel (h.new n b).ok) (hblk:jjd C (updE env (h.nid n) e) (w.alloc o) e b):
  Rel C keep (updE env (h.nid n) e) (h.new n b) (w.alloc o)/\KeepW keep w (w.alloc o):=by
 have hn:=jew hr;have hx:=jbY hn env e;have hsz:(w.alloc o).heap.size=w.heap.size+1:=by show(w.heap.push o).size=_;simp
 have hself:updE env (h.nid n) e (h.nid n)=e:=by simp[updE]
 have hold:∀i c,h.get i=some c->updE env (h.nid n) e i=env i:=fun i c hc=>hx i (by simp[Heap.ok,hc]);refine⟨⟨?_,?_,?_,?_,?_,?_,?_,?_⟩,⟨rfl,rfl,rfl,by omega,?_⟩⟩
 ·intro i c hc;rw[jdr hr]at hc;by_cases ei:i=h.nid n
  ·rw[ei,hself];omega
  ·rw[if_neg ei]at hc;rw[hold i c hc];have:=R.lt i c hc;omega
 ·intro i c hc;rw[jdr hr]at hc;by_cases ei:i=h.nid n
  ·rw[if_pos ei]at hc;cases hc;rw[ei,hself];exact hblk
  ·rw[if_neg ei]at hc;rw[hold i c hc];have hl:=R.lt i c hc;exact(R.blk i c hc).mono hx (R.bel i c hc) (by rw[jbl,if_neg (by omega)])
 ·intro i j c d hc hd hij hw hdd;rw[jdr hr]at hc hd;by_cases ei:i=h.nid n
  ·have ej:j≠h.nid n:=fun x=>hij (ei.trans x.symm);rw[if_neg ej]at hd;rw[ei,hself,hold j d hd,he];have:=R.lt j d hd;omega
  ·rw[if_neg ei]at hc;by_cases ej:j=h.nid n
   ·rw[ej,hself,hold i c hc,he];have:=R.lt i c hc;omega
   ·rw[if_neg ej]at hd;rw[hold i c hc,hold j d hd];exact R.disj i j c d hc hd hij hw hdd
 ·intro i c hc;rw[jdr hr]at hc;by_cases ei:i=h.nid n
  ·rw[if_pos ei]at hc;cases hc;exact hbel
  ·rw[if_neg ei]at hc;exact kao (fun j hj=>(jc0 hr).2 (.inr hj)) (R.bel i c hc)
 ·intro i c hc hw hk;rw[jdr hr]at hc;by_cases ei:i=h.nid n
  ·rw[ei,hself,he]at hk;have:=R.keepLt _ hk;omega
  ·rw[if_neg ei]at hc;rw[hold i c hc]at hk;exact R.kept i c hc hw hk
 ·intro r hk;have:=R.keepLt r hk;omega
 ·intro i c hc hd hk;rw[jdr hr]at hc;by_cases ei:i=h.nid n
  ·rw[ei,hself,he]at hk;have:=R.hidLt _ hk;omega
  ·rw[if_neg ei]at hc;rw[hold i c hc]at hk;exact R.hid i c hc hd hk
 ·intro r hk;have:=R.hidLt r hk;omega
 ·intro r hk;have:=hk.elim (R.keepLt r) (R.hidLt r);rw[jbl,if_neg (by omega)]
theorem Rel.write{C:Ctx}{keep:Keep}{env:Env}{h:Heap}{w w':World}(R:Rel C keep env h w){i:Nat}{b b':ABlk}(hi:h.get i=some b)(hw:b.wr=true)
  (hos:w'.os=w.os) (htp:w'.tape=w.tape) (hout:w'.output=w.output) (hsz:w'.heap.size=w.heap.size)
  (hother:∀r,r≠(env i).blk->w'.heap[r]? =w.heap[r]?) (hbel:b'.bel h.ok) (hblk:jjd C env w' (env i) b'):
  Rel C keep env (h.put i b') w'/\KeepW keep w w':=by
 have hlt:=kab hi;have hok:∀j,(h.put i b').ok j↔h.ok j:=fun j=>by
  rw[jnF hlt];constructor
  ·rintro(rfl|x)
   ·simp[Heap.ok,hi]
   ·exact x
  ·exact .inr
 have hg:=fun j=>kaj h i j b' hlt;refine⟨⟨?_,?_,?_,?_,?_,?_,?_,?_⟩,⟨hos,htp,hout,by omega,?_⟩⟩
 ·intro j c hc;rw[hg]at hc;by_cases ej:j=i
  ·rw[ej];have:=R.lt i b hi;omega
  ·rw[if_neg ej]at hc;have:=R.lt j c hc;omega
 ·intro j c hc;rw[hg]at hc;by_cases ej:j=i
  ·rw[if_pos ej]at hc;cases hc;rw[ej];exact hblk
  ·rw[if_neg ej]at hc;by_cases hd:c=.dead
   ·subst hd;trivial
   ·exact(R.blk j c hc).mono (kam h env) (R.bel j c hc) (hother _ (R.disj i j b c hi hc (Ne.symm ej) hw hd))
 ·intro j k c d hc hd hjk hwr hdd;rw[hg]at hc hd;by_cases ej:j=i
  ·have ek:k≠i:=fun x=>hjk (ej.trans x.symm);rw[if_neg ek]at hd;rw[ej];exact R.disj i k b d hi hd (Ne.symm ek) hw hdd
  ·rw[if_neg ej]at hc;by_cases ek:k=i
   ·rw[ek];exact R.disj j i c b hc hi ej hwr (by rintro rfl;simp[ABlk.wr]at hw)
   ·rw[if_neg ek]at hd;exact R.disj j k c d hc hd hjk hwr hdd
 ·intro j c hc;rw[hg]at hc;refine kao (fun j hj=>(hok j).2 hj) ?_;by_cases ej:j=i
  ·rw[if_pos ej]at hc;cases hc;exact hbel
  ·rw[if_neg ej]at hc;exact R.bel j c hc
 ·intro j c hc hwr hk;rw[hg]at hc;by_cases ej:j=i
  ·rw[ej]at hk;exact R.kept i b hi hw hk
  ·rw[if_neg ej]at hc;exact R.kept j c hc hwr hk
 ·intro r hk;have:=R.keepLt r hk;omega
 ·intro j c hc hd hk;rw[hg]at hc;by_cases ej:j=i
  ·rw[ej]at hk;exact R.hid i b hi (by rintro rfl;simp[ABlk.wr]at hw) hk
  ·rw[if_neg ej]at hc;exact R.hid j c hc hd hk
 ·intro r hk;have:=R.hidLt r hk;omega
 ·intro r hk;exact hother r (fun x=>hk.elim (fun hk=>R.kept i b hi hw (x▸hk)) (fun hk=>R.hid i b hi (by rintro rfl;simp[ABlk.wr]at hw) (x▸hk)))
theorem jds{h:Heap}{i:Nat}{b b':ABlk}(hi:h.get i=some b):HLe h (h.put i b'):=by
 have hlt:=kab hi;refine⟨Nat.le_refl _,fun j hj=>?_⟩;rw[kaj _ _ _ _ hlt];by_cases e:j=i
 ·simp[e,hi]
 ·rw[if_neg e]
theorem Rel.dead{C:Ctx}{keep:Keep}{env:Env}{h:Heap}{w:World}(R:Rel C keep env h w){i:Nat}{b:ABlk}(hi:h.get i=some b):
  Rel C keep env (h.put i .dead) w:=by
 have hlt:=kab hi;have hok:∀j,(h.put i .dead).ok j↔h.ok j:=fun j=>by
  rw[jnF hlt];constructor
  ·rintro(rfl|x)
   ·simp[Heap.ok,hi]
   ·exact x
  ·exact .inr
 have hg:=fun j=>kaj h i j .dead hlt;refine⟨?_,?_,?_,?_,?_,R.keepLt,?_,R.hidLt⟩
 ·intro j c hc;rw[hg]at hc;by_cases ej:j=i
  ·rw[ej];exact R.lt i b hi
  ·rw[if_neg ej]at hc;exact R.lt j c hc
 ·intro j c hc;rw[hg]at hc;by_cases ej:j=i
  ·rw[if_pos ej]at hc;cases hc;trivial
  ·rw[if_neg ej]at hc;exact R.blk j c hc
 ·intro j k c d hc hd hjk hwr hdd;rw[hg]at hc hd;by_cases ej:j=i
  ·rw[if_pos ej]at hc;cases hc;simp[ABlk.wr]at hwr
  ·rw[if_neg ej]at hc;by_cases ek:k=i
   ·rw[if_pos ek]at hd;cases hd;exact absurd rfl hdd
   ·rw[if_neg ek]at hd;exact R.disj j k c d hc hd hjk hwr hdd
 ·intro j c hc;rw[hg]at hc;refine kao (fun j hj=>(hok j).2 hj) ?_;by_cases ej:j=i
  ·rw[if_pos ej]at hc;cases hc;trivial
  ·rw[if_neg ej]at hc;exact R.bel j c hc
 ·intro j c hc hwr hk;rw[hg]at hc;by_cases ej:j=i
  ·rw[if_pos ej]at hc;cases hc;simp[ABlk.wr]at hwr
  ·rw[if_neg ej]at hc;exact R.kept j c hc hwr hk
 ·intro j c hc hd hk;rw[hg]at hc;by_cases ej:j=i
  ·rw[if_pos ej]at hc;cases hc;exact hd rfl
  ·rw[if_neg ej]at hc;exact R.hid j c hc hd hk
theorem Rel.heap_eq{C:Ctx}{keep:Keep}{env:Env}{h:Heap}{w w':World}(R:Rel C keep env h w)(hw:w'.heap=w.heap):Rel C keep env h w':=
 ⟨fun i b hb=>by rw[hw];exact R.lt i b hb,fun i b hb=>(R.blk i b hb).mono (kam h env) (R.bel i b hb) (by rw[hw]),R.disj,R.bel,R.kept,fun r hr=>by rw[hw];exact R.keepLt r hr,R.hid,fun r hr=>by rw[hw];exact R.hidLt r hr⟩
theorem Rel.cell{C:Ctx}{keep:Keep}{env:Env}{h:Heap}{w:World}(R:Rel C keep env h w){i:Nat}{vs:List AV}{wr:Bool}{u:Nat}(hi:h.get i=some (.cells vs wr u)){k:Nat}{v:AV}(hk:vs[k]? =some v):
  w.cell? ⟨(env i).blk,(env i).sh+k,none⟩=some (v.val C.lk env):=by
 have r:=R.blk i _ hi;cases wr with
 |false=>exact r k v hk
 |true=>
  obtain⟨cur,t,h1,h2,_⟩:=r;rw[cell_of_row w _ _ cur t (0,0) h1];exact h2 k v hk
def bitsA(op:BinOp)(k:IntKind)(x y:Int):Int:=
 let a:=BitVec.ofInt k.bits x
 let b:=BitVec.ofInt k.bits y
 match op with
 |.and=>k.wrap (a&&&b).toNat
 |.or=>k.wrap (a|||b).toNat
 |.xor=>k.wrap (a^^^b).toNat
 |_=>k.wrap (a&&& ~~~b).toNat
def jbJ(op:BinOp)(k:IntKind)(a b:Int):Option AV:=
 match op with
 |.add=>some (.int k (k.wrap (a+b)))
 |.sub=>some (.int k (k.wrap (a-b)))
 |.mul=>some (.int k (k.wrap (a*b)))
 |.quo=>if b=0 then none else some (.int k (k.wrap (a.tdiv b)))
 |.rem=>if b=0 then none else some (.int k (a.tmod b))
 |.and=>some (.int k (bitsA .and k a b))
 |.or=>some (.int k (bitsA .or k a b))
 |.xor=>some (.int k (bitsA .xor k a b))
 |.andNot=>some (.int k (bitsA .andNot k a b))
 |.eql=>some (.bool (a==b))
 |.neq=>some (.bool (a !=b))
 |.lss=>some (.bool (decide (a<b)))
 |.leq=>some (.bool (decide (a<=b)))
 |.gtr=>some (.bool (decide (b<a)))
 |.geq=>some (.bool (decide (b<=a)))
 |_=>none
def binA(op:BinOp)(x y:AV):Option AV:=
 match op,x,y with
 |.shl,.int k a,.int _ b=>if b<0 then none else some (.int k (k.wrap (a*2^(min b.toNat k.bits))))
 |.shr,.int k a,.int _ b=>if b<0 then none else some (.int k (a.fdiv (2^(min b.toNat k.bits))))
 |op,.int k a,.int k' b=>if k=k' then jbJ op k a b else none
 |_,_,_=>none
def jaB(xs ys:List AV):List (Nat×Bool)->Option Bool
 |[]=>some true
 |(o,false)::os=>match xs[o]?,ys[o]?,jaB xs ys os with
  |some (.int k a),some (.int k' b),some r=>if k=k' then some (a==b&&r)else none
  |_,_,_=>none
 |(o,true)::os=>match xs[o]?,ys[o]?,jaB xs ys os with
  |some (.bool a),some (.bool b),some r=>some (a==b&&r)
  |_,_,_=>none
def unA(op:UnOp)(x:AV):Option AV:=
 match op,x with
 |.neg,.int k n=>some (.int k (k.wrap (0-n)))
 |.xor,.int k n=>some (.int k (bitsA .xor k (if k.signed then-1 else k.max) n))
 |.not,.bool b=>some (.bool !b)
 |_,_=>none
def cut(vs:List AV)(o n:Nat):List AV:=(vs.drop o).take n
def splice(vs:List AV)(o:Nat)(cs:List AV):List AV:=
 match cs with
 |[c]=>vs.set o c
 |cs=>vs.take o++cs++vs.drop (o+cs.length)
def fillA(z:List AV):List (Nat×Nat×AV)->Option (List AV)
 |[]=>some z
 |(o,n,v)::rest=>if v.cells.length=n/\o+n<=z.length then fillA (z.take o++v.cells++z.drop (o+n)) rest else none
def partA(agg:Bool)(vs:List AV)(o n:Nat):Option AV:=
 if agg then(if o+n<=vs.length then some (.agg (cut vs o n))else none)else vs[o]?
def jbo(n:Nat)(z:List AV):List AV:=
 match z with
 |[x]=>List.replicate n x
 |z=>(List.replicate n z).flatten
def loadA(h:Heap)(agg:Bool)(n:Nat):AV->Option AV
 |.ptr i o=>match h.get i with
  |some (.cells vs _ _)=>partA agg vs o n
  |_=>none
 |_=>none
def jem(h:Heap)(n:Nat)(a v:AV):Option Heap:=
 match a with
 |.ptr i o=>match h.get i with
  |some (.cells vs true u)=>if v.cells.length=n/\o+n<=vs.length/\v.cells.all AV.one=true then some (h.put i (.cells (splice vs o v.cells) true u))else none
  |_=>none
 |_=>none
def intA:AV->Option Int
 |.int _ n=>some n
 |_=>none
def jca(len cap:Nat)(lo hi mx:Option AV):Option (Nat×Nat×Nat):=
 match (match mx with|some v=>intA v|none=>some (cap:Int)),(match hi with|some v=>intA v|none=>if mx.isSome then none else some (len:Int)),(match lo with|some v=>intA v|none=>some (0:Int))with
 |some m,some hh,some l=>if 0<=l/\l<=hh/\hh<=m/\m<=cap then some (l.toNat,hh.toNat,m.toNat)else none
 |_,_,_=>none
def jaO(h:Heap)(sz:Nat)(x:AV)(lo hi mx:Option AV):Option AV:=
 match x with
 |.nilslice=>match jca 0 0 lo hi mx with
  |some _=>some .nilslice
  |none=>none
 |.slice i o n (.known c)=>match jca n c lo hi mx with
  |some (l,hh,m)=>some (.slice i (if m=l then o else o+l*sz) (hh-l) (.known (m-l)))
  |none=>none
 | .slice i o n (.unk l0) => match h.get i with
  | some (.cells vs true u) => if u = sz /\ o = l0 * sz /\ o + n * sz <= vs.length then
    match jca n n lo hi mx with
    | some (l, hh, m) => if mx.isSome then some (.slice i (if m = l then o else o + l * sz) (hh - l) (.known (m - l)))
      else if l<hh\/l=0 then some (.slice i (o+l*sz) (hh-l) (.unk (l0+l)))else none
    |none=>none
   else none
  |_=>none
 |_=>none
def jaH(h:Heap)(sz:Nat):AV->Option (Nat×List AV)
 |.nilslice=>some (0,[])
 |.slice i o n _=>match h.get i with
  |some (.cells vs _ _)=>if o+n*sz<=vs.length then some (n,cut vs o (n*sz))else none
  |_=>none
 |_=>none
def jav(h:Heap)(nid:Option Nat)(sz bytes:Nat)(s:AV)(m:Nat)(news:List AV):Option (AV×Heap):=
 match s with
 | .nilslice => if m = 0 then some (.nilslice, h) else
   if m*bytes<=2^40/\h.room nid=true then some (.slice (h.nid nid) 0 m (.unk 0),h.new nid (.cells news true sz))else none
 | .slice i o n (.known c) => if m = 0 then (if n <= c /\ (h.get i).isSome = true then some (.slice i o n (.known c), h) else none) else match h.get i with
  | some (.cells vs true u) => if o + n * sz <= vs.length then
    if n+m<=c then
     if o+(n+m)*sz<=vs.length/\news.all AV.one=true then some (.slice i o (n+m) (.known c),h.put i (.cells (splice vs (o+n*sz) news) true u))else none
    else if(n+m)*bytes<=2^40/\h.room nid=true then some (.slice (h.nid nid) 0 (n+m) (.unk 0),h.new nid (.cells (cut vs o (n*sz)++news) true sz))else none
   else none
  | some (.cells vs false _) => if o + n * sz <= vs.length /\ c < n + m /\ (n + m) * bytes <= 2 ^ 40 /\ h.room nid = true then
    some (.slice (h.nid nid) 0 (n+m) (.unk 0),h.new nid (.cells (cut vs o (n*sz)++news) true sz))else none
  |_=>none
 | .slice i o n (.unk l) => match h.get i with
  | some (.cells vs true u) => if u = sz /\ o = l * sz /\ o + n * sz <= vs.length /\ news.all AV.one = true /\ (n + m) * bytes <= 2 ^ 40 /\ h.room nid = true /\ 0 < m then
    some (.slice (h.nid nid) 0 (n+m) (.unk 0),(h.put i .dead).new nid (.cells (cut vs o (n*sz)++news) true sz))
   else if u=sz/\o=l*sz/\o+n*sz<=vs.length/\m=0 then some (s,h)else none
  |_=>none
 |_=>none
def copyA(h:Heap)(sz:Nat)(d s:AV):Option (AV×Heap):=
 match d,jaH h sz s with
 |.nilslice,some _=>some (.int .i64 0,h)
 | .slice i o n _, some (m, cs) => match h.get i with
  |some (.cells vs true u)=>
   let k:=min m n
   if o+k*sz<=vs.length/\(cs.take (k*sz)).all AV.one=true then some (.int .i64 k,h.put i (.cells (splice vs o (cs.take (k*sz))) true u))else none
  |_=>none
 |_,_=>none
def jc1(a:Option AV)(y:AV):Option AV:=
 match a,y with
 |some (.int k a),.int k' b=>if k=k' then some (.int k (if b>a then b else a))else none
 |_,_=>none
def jc2(a:Option AV)(y:AV):Option AV:=
 match a,y with
 |some (.int k a),.int k' b=>if k=k' then some (.int k (if b<a then b else a))else none
 |_,_=>none
def maxA:List AV->Option AV
 |.int k a::xs=>xs.foldl jc1 (some (.int k a))
 |_=>none
def minA:List AV->Option AV
 |.int k a::xs=>xs.foldl jc2 (some (.int k a))
 |_=>none
def keyEq:AKey->AV->AV->Option Bool
 |.int,.int k a,.int k' b=>if k=k' then some (a==b)else none
 |.bool,.bool a,.bool b=>some (a==b)
 |.struct ls,.agg xs,.agg ys=>jaB xs ys ls
 |_,_,_=>none
def findA(ks:AKey)(k:AV):List (AV×AV)->Nat->Option (Option (Nat×AV))
 |[],_=>some none
 |e::es,i=>match keyEq ks k e.1 with
  |some true=>some (some (i,e.2))
  |some false=>findA ks k es (i+1)
  |none=>none
def giveA(z:AV)(comma:Bool):Option (Nat×AV)->AV
 |some (_,v)=>if comma then .tuple [v,.bool true]else v
 |none=>if comma then .tuple [z,.bool false]else z
def lookA(h:Heap)(ks:AKey)(z:AV)(comma:Bool)(m k:AV):Option AV:=
 match m with
 |.nilmap=>if(keyEq ks k k).isSome=true then some (giveA z comma none)else none
 |.map i=>match h.get i with
  |some (.map es)=>if(keyEq ks k k).isSome=true then(findA ks k es 0).map (giveA z comma)else none
  |_=>none
 |_=>none
def sameAtom:AV->AV->Bool
 |.int k a,.int k' b=>k==k'&&a==b
 |.bool a,.bool b=>a==b
 |_,_=>false
def sameKey:AV->AV->Bool
 |.agg xs,.agg ys=>xs.length==ys.length&&(xs.zip ys).all fun p=>sameAtom p.1 p.2
 |a,b=>sameAtom a b
def setA(ks:AKey)(k v:AV)(es:List (AV×AV)):Option (List (AV×AV)):=
 match findA ks k es 0 with
 |some none=>some (es++[(k,v)])
 |some (some (j,_))=>match es[j]? with
  |some e=>if sameKey e.1 k=true then some (es.set j (k,v))else none
  |none=>none
 |none=>none
def jcl(h:Heap)(ks:AKey)(m k v:AV):Option Heap:=
 match m with
 |.map i=>match h.get i with
  |some (.map es)=>if(keyEq ks k k).isSome=true then(setA ks k v es).map fun es'=>h.put i (.map es')else none
  |_=>none
 |_=>none
def pureA(op:AOp)(ev:AOpd->AV)(h:Heap):Option AV:=
 match op with
 |.mv x=>some (ev x)
 |.pick c a b=>match ev c with
  |.bool t=>some (if t then ev a else ev b)
  |_=>none
 |.build z parts=>(fillA z (parts.map fun p=>(p.1,p.2.1,ev p.2.2))).map .agg
 |.load agg n x=>loadA h agg n (ev x)
 |.nilCheck x=>match ev x with
  |.ptr i o=>some (.ptr i o)
  |.func g a c=>some (.func g a c)
  |.yield l=>some (.yield l)
  |_=>none
 |.bin op x y=>binA op (ev x) (ev y)
 |.eqb neg x y=>match ev x,ev y with
  |.bool a,.bool b=>some (.bool (if neg then !(a==b)else a==b))
  |_,_=>none
 |.eqn neg x=>match ev x with
  |.slice _ _ _ _=>some (.bool neg)
  |.nilslice=>some (.bool !neg)
  |_=>none
 |.eqp neg x=>match ev x with
  |.ptr _ _=>some (.bool neg)
  |.nilptr=>some (.bool !neg)
  |_=>none
 |.eqs neg ls x y=>match ev x,ev y with
  |.agg xs,.agg ys=>(jaB xs ys ls).map fun r=>.bool (if neg then !r else r)
  |_,_=>none
 |.un op x=>unA op (ev x)
 |.conv k x=>match ev x with
  |.int _ n=>some (.int k (k.wrap n))
  |_=>none
 |.mkfunc g a c=>some (.func g (a.map ev) (c.map ev))
 |.slice sz x lo hi mx=>jaO h sz (ev x) (lo.map ev) (hi.map ev) (mx.map ev)
 |.fieldAddr off x=>match ev x with
  |.ptr i o=>some (.ptr i (o+off))
  |_=>none
 |.field agg off n x=>match ev x with
  |.agg vs=>partA agg vs off n
  |_=>none
 |.indexAddr sz x i=>match ev x,ev i with
  |.slice b o n _,.int _ k=>if 0<=k/\k<n then some (.ptr b (o+k.toNat*sz))else none
  |_,_=>none
 |.indexArr sz len x i=>match ev x,ev i with
  |.ptr b o,.int _ k=>if 0<=k/\k<len then some (.ptr b (o+k.toNat*sz))else none
  |_,_=>none
 |.index agg sz len x i=>match ev x,ev i with
  |.agg vs,.int _ k=>if 0<=k/\k<len then partA agg vs (k.toNat*sz) sz else none
  |_,_=>none
 | .strIdx x i => match ev x, ev i with
  | .str bs, .int _ k => if 0 <= k then match bs[k.toNat]? with
    |some b=>if b<256 then some (.int .u8 b)else none
    |none=>none
   else none
  |_,_=>none
 |.extract x i=>match ev x with
  |.tuple vs=>vs[i]?
  |_=>none
 |.len x=>match ev x with
  |.slice _ _ n _=>some (.int .i64 n)
  |.nilslice=>some (.int .i64 0)
  |_=>none
 |.cap x=>match ev x with
  |.slice _ _ _ (.known c)=>some (.int .i64 c)
  |.nilslice=>some (.int .i64 0)
  |_=>none
 |.max xs=>maxA (xs.map ev)
 |.min xs=>minA (xs.map ev)
 |.lookup ks z comma m k=>lookA h ks z comma (ev m) (ev k)
 |_=>none
def aOp(nid:Option Nat)(op:AOp)(ev:AOpd->AV)(h:Heap):Option (AV×Heap):=
 match op with
 |.alloc z=>if h.room nid=true then some (.ptr (h.nid nid) 0,h.new nid (.cells z true 0))else none
 |.box x=>if h.room nid=true then some (.ptr (h.nid nid) 0,h.new nid (.cells (ev x).cells true 0))else none
 |.buildSlice n z parts=>match fillA z (parts.map fun p=>(p.1,p.2.1,ev p.2.2))with
  |some cs=>if h.room nid=true then some (.slice (h.nid nid) 0 n (.known n),h.new nid (.cells cs true 0))else none
  |none=>none
 |.store n x v=>(jem h n (ev x) (ev v)).map fun h'=>(.undef,h')
 |.makeSlice z bytes l c=>match ev l,ev c with
  |.int _ l,.int _ c=>if 0<=l/\l<=c/\c*bytes<=2^47/\c<=2^47/\h.room nid=true then some (.slice (h.nid nid) 0 l.toNat (.known c.toNat),h.new nid (.cells (jbo c.toNat z) true 0))else none
  |_,_=>none
 |.append sz bytes s x=>match jaH h sz (ev x)with
  |some (m,news)=>jav h nid sz bytes (ev s) m news
  |none=>none
 |.appendMake z bytes s x=>match ev x with
  |.int _ m=>if 0<=m/\m<=2^36 then jav h nid z.length bytes (ev s) m.toNat (jbo m.toNat z)else none
  |_=>none
 |.copy sz d s=>copyA h sz (ev d) (ev s)
 |.makeMap=>if h.room nid=true then some (.map (h.nid nid),h.new nid (.map []))else none
 |.makeChan=>if h.room nid=true then some (.chan (h.nid nid),h.new nid .chan)else none
 |.mapUpd ks m k v=>(jcl h ks (ev m) (ev k) (ev v)).map fun h'=>(.undef,h')
 |op=>(pureA op ev h).map fun v=>(v,h)
section
variable {C : Ctx} {keep : Keep} {env : Env} {h : Heap} {w : World}
theorem jdt(b s j:Nat):(⟨b,s,none⟩:Addr).add j=⟨b,s+j,none⟩:=by
 unfold Addr.add;split<;>simp_all
theorem jbG{P:Program}{t:TypeId}{g:Bool}(hg:aggT P t=some g)(w:World):(isAgg t).run P w=.ok g w:=by
 unfold aggT at hg;split at hg
 ·rename_i fs hd;cases hg;simp[isAgg,run_underlying hd]
 ·rename_i n e hd;cases hg;simp[isAgg,run_underlying hd]
 ·rename_i d hn1 hn2 hd;cases hg;simp only[isAgg,Sem.run_bind,run_underlying hd,Result.andThen_ok];rfl
 ·cases hg
theorem ja2{P:Program}{t:TypeId}{n:Nat}(hn:sizeT P t=some n)(w:World):(sizeOf t).run P w=.ok n w:=by
 unfold sizeT at hn;cases hi:P.info? t with
 |none=>simp[hi]at hn
 |some i=>simp[hi]at hn;simp[sizeOf,typeInfo,hi,hn]
theorem jgh{P:Program}{t:TypeId}{n:Nat}(hn:sizeT P t=some n):∃i,P.info? t=some i/\i.size=n:=by
 unfold sizeT at hn;cases hi:P.info? t with
 |none=>simp[hi]at hn
 |some i=>simp[hi]at hn;exact⟨i,rfl,hn⟩
theorem jcm{P:Program}{t:TypeId}{z:List AV}(hz:zcells P t=some z)(lk:Nat->FuncId)(env:Env)(p:Nat->Prop):
  ∃i v,P.info? t=some i/\i.zero=some v/\v.cells.size=i.size/\z.map (AV.val lk env)=v.cells.toList/\z.length=i.size/\(∀a∈z,a.bel p)/\∀a∈z,a.one=true:=by
 unfold zcells at hz;cases hi:P.info? t with
 |none=>simp[hi]at hz
 | some i =>
  simp only[hi]at hz;cases hv:i.zero with
  |none=>simp[hv]at hz
  |some v=>
   simp only[hv]at hz;split at hz
   ·rename_i hs;have x:=jeu lk env p hz;exact⟨i,v,rfl,hv,hs,x.1,by rw[<-hs,<-List.length_map (f:=AV.val lk env),x.1];simp,x.2⟩
   ·cases hz
theorem jjQ(x:Operand)(ax:AOpd)(hx:lowerOpd C.inv x=some ax)(t:Nat->AV)(a:Act)(hA:∀s,a.tmps.getD s undef=(t s).val C.lk env)(hb:∀s,(t s).bel h.ok):
  a.eval x=(ax.ev t).val C.lk env/\(ax.ev t).bel h.ok:=by
 cases x with
 |tmp s=>cases hx;exact⟨hA s,hb s⟩
 |const v=>
  simp only[lowerOpd,Option.map_eq_some_iff]at hx;obtain⟨b,h1,rfl⟩:=hx;have:=jgf h1 C.lk env h.ok;exact⟨this.1.symm,this.2⟩
 |global g=>cases hx
 |func f=>
  simp only[lowerOpd,Option.map_eq_some_iff]at hx;obtain⟨b,h1,rfl⟩:=hx;refine⟨?_,trivial,trivial⟩;simp[AOpd.ev,AV.val,AV.vals,Act.eval,C.hinv f b h1]
theorem jba{ρ:Operand->Value}{ev:AOpd->AV}(hρ:∀x ax,lowerOpd C.inv x=some ax->ρ x=(ev ax).val C.lk env/\(ev ax).bel h.ok):
  ∀{xs:List Operand} {zas:List AOpd},lowerOpds C.inv xs=some zas->xs.map ρ=(zas.map ev).map (AV.val C.lk env)/\∀v∈zas.map ev,v.bel h.ok
 |[],zas,hx=>by cases hx;simp
 | x :: xs, zas, hx => by
  unfold lowerOpds at hx;split at hx
  ·rename_i a as' h1 h2;cases hx;have p:=hρ x a h1;have q:=jba hρ h2;refine⟨by simp[p.1,q.1],?_⟩;intro v hv;rcases List.mem_cons.1 hv with rfl|hv
   ·exact p.2
   ·exact q.2 v hv
  ·cases hx
variable (R : Rel C keep env h w)
include R
theorem jk8{i:Nat}{vs:List AV}{wr:Bool}{u:Nat}(hi:h.get i=some (.cells vs wr u))(o n:Nat)(j:Nat)(v:Value)
  (hj:((cut vs o n).map (AV.val C.lk env))[j]? =some v):w.cell? ((⟨(env i).blk,(env i).sh+o,none⟩:Addr).add j)=some v:=by
 simp only[List.getElem?_map,Option.map_eq_some_iff,cut]at hj;obtain⟨a,ha,rfl⟩:=hj;rw[List.getElem?_take]at ha;split at ha
 ·rw[List.getElem?_drop]at ha;rw[jdt,Nat.add_assoc];exact R.cell hi ha
 ·cases ha
theorem jfi{i:Nat}{vs:List AV}{wr:Bool}{u:Nat}(hi:h.get i=some (.cells vs wr u))(o n:Nat):∀v∈cut vs o n,v.bel h.ok:=
 fun v hv=>R.bel i _ hi v (List.mem_of_mem_drop (List.mem_of_mem_take hv))
theorem jje{t:TypeId}{g:Bool}{n:Nat}(hg:aggT C.P t=some g)(hn:sizeT C.P t=some n){x v:AV}(hl:loadA h g n x=some v):
  (Instr.loadAt t (x.val C.lk env)).run C.P w=.ok (v.val C.lk env) w/\v.bel h.ok:=by
 unfold loadA at hl;split at hl
 ·rename_i i o;split at hl
  ·rename_i vs wr u hi;unfold partA at hl;cases g with
   | true =>
    simp only[if_true]at hl;split at hl
    ·rename_i hle;cases hl;have hc:=run_loadCells_list (P:=C.P) w ⟨(env i).blk,(env i).sh+o,none⟩ ((cut vs o n).map (AV.val C.lk env)) (jk8 R hi o n);have hlen:((cut vs o n).map (AV.val C.lk env)).length=n:=by simp[cut];omega
     rw[hlen]at hc;refine⟨?_,(ja9 _ _).2 (jfi R hi o n)⟩;simp[Instr.loadAt,Instr.sureAddr,AV.val,loadVar,jbG hg,ja2 hn,hc,jbn]
    ·cases hl
   |false=>
    simp only[Bool.false_eq_true,if_false]at hl;refine⟨?_,R.bel i _ hi v (List.mem_of_getElem? hl)⟩;simp[Instr.loadAt,Instr.sureAddr,AV.val,loadVar,jbG hg,Nat.add_assoc,R.cell hi hl]
  ·cases hl
 ·cases hl
omit R in
theorem jhH{t:TypeId}{g:Bool}{n:Nat}(hg:aggT C.P t=some g)(hn:sizeT C.P t=some n){vs:List AV}{o:Nat}{v:AV}(hv:partA g vs o n=some v)(hb:∀x∈vs,x.bel h.ok):
  (part t (vs.map (AV.val C.lk env)).toArray o).run C.P w=.ok (v.val C.lk env) w/\v.bel h.ok:=by
 unfold partA at hv;cases g with
 |true=>
  simp only[if_true]at hv;split at hv
  ·cases hv;refine⟨?_,(ja9 _ _).2 fun v hv=>hb v (List.mem_of_mem_drop (List.mem_of_mem_take hv))⟩;simp[part,jbG hg,ja2 hn,AV.val,jbn,cut,List.map_drop,List.map_take]
  ·cases hv
 |false=>
  simp only[Bool.false_eq_true,if_false]at hv;refine⟨?_,hb v (List.mem_of_getElem? hv)⟩;simp[part,jbG hg,hv]
omit R in
theorem jrP{v:AV}{n:Int}(hv:intA v=some n):∃k,v.val C.lk env=.int k n:=by
 unfold intA at hv;split at hv
 ·cases hv;exact⟨_,rfl⟩
 ·cases hv
omit R in
theorem jdx{v:AV}{n:Int}(hv:intA v=some n)(y:Nat)(code:BoundsCode)(h0:0<=n)(h1:n<=y):
  (Instr.sliceBound (v.val C.lk env) y code).run C.P w=.ok n.toNat w:=by
 obtain⟨k,hk⟩:=jrP (C:=C) (env:=env) hv;rw[hk];simp[Instr.sliceBound,asIntOf,h0,h1]
omit R in
theorem jgi{len cap cap':Nat}{lo hi mx:Option AV}{l hh m:Nat}(hb:jca len cap lo hi mx=some (l,hh,m))(hc:cap<=cap'):
  ∃m',(Instr.sliceBounds true len cap' (lo.map (AV.val C.lk env)) (hi.map (AV.val C.lk env)) (mx.map (AV.val C.lk env))).run C.P w=.ok (l,hh,m') w/\
   l<=hh/\hh<=m'/\m'<=cap'/\hh<=cap/\(mx.isSome=true->m'=m/\m<=cap)/\(mx=none->m'=cap'/\m=cap):=by
 unfold jca at hb;split at hb
 ·rename_i mi hi' li hm hhh hl;split at hb
  ·rename_i hcond;cases hb;obtain⟨b1,b2,b3,b4⟩:=hcond;cases mx with
   | some vm =>
    simp only at hm;cases hi with
    |none=>simp at hhh
    | some vh =>
     simp only at hhh;refine⟨mi.toNat,?_,by omega,by omega,by omega,by omega,(fun _=>⟨rfl,by omega⟩),(fun hx=>by cases hx)⟩;have r1:=jdx (C:=C) (env:=env) (w:=w) hm cap' .slice3Acap (by omega) (by omega);have r2:=jdx (C:=C) (env:=env) (w:=w) hhh mi.toNat .slice3B (by omega) (by omega);cases lo with
     |none=>simp only at hl;cases hl;simp[Instr.sliceBounds,r1,r2]
     |some vl=>
      simp only at hl;have r3:=jdx (C:=C) (env:=env) (w:=w) hl hi'.toNat .slice3C (by omega) (by omega);simp[Instr.sliceBounds,r1,r2,r3]
   | none =>
    simp only at hm;cases hm;refine⟨cap',?_,by omega,by omega,by omega,by omega,(fun hx=>by cases hx),(fun _=>⟨rfl,by omega⟩)⟩;cases hi with
    | none =>
     simp at hhh;cases lo with
     |none=>simp only at hl;cases hl;simp[Instr.sliceBounds];omega
     |some vl=>
      simp only at hl;have r3:=jdx (C:=C) (env:=env) (w:=w) hl len .sliceB (by omega) (by omega);simp[Instr.sliceBounds,r3];omega
    | some vh =>
     simp only at hhh;have r2:=jdx (C:=C) (env:=env) (w:=w) hhh cap' .sliceAcap (by omega) (by omega);cases lo with
     |none=>simp only at hl;cases hl;simp[Instr.sliceBounds,r2]
     |some vl=>
      simp only at hl;have r3:=jdx (C:=C) (env:=env) (w:=w) hl hi'.toNat .sliceB (by omega) (by omega);simp[Instr.sliceBounds,r2,r3]
  ·cases hb
 ·cases hb
theorem jhI{i:Nat}{vs:List AV}{u l0 n o:Nat}(hi:h.get i=some (.cells vs true u))(hsz:0<u)(ho:o=l0*u)(hle:o+n*u<=vs.length):
  n<=(env i).cap-l0/\l0<=(env i).cap:=by
 obtain⟨cur,t,h1,h2,h3⟩:=R.blk i _ hi;obtain⟨h4,h5⟩:=h3 hsz;have:(l0+n)*u<=(env i).cap*u:=by rw[Nat.add_mul];omega
 have:=Nat.le_of_mul_le_mul_right this hsz;omega
theorem jmp{t e:TypeId}{sz:Nat}(ht:C.P.underlying t=some (.slice e))(hn:sizeT C.P e=some sz)(hsz:0<sz){x v:AV}{lo hi mx:Option AV}
  (hx:x.bel h.ok) (hs:jaO h sz x lo hi mx=some v):
  (Instr.sliceAt t (x.val C.lk env) (lo.map (AV.val C.lk env)) (hi.map (AV.val C.lk env)) (mx.map (AV.val C.lk env))).run C.P w=.ok (v.val C.lk env) w/\v.bel h.ok:=by
 unfold jaO at hs;split at hs
 ·-- nil
  split at hs
  ·rename_i b hb;cases hs;obtain⟨l,hh,m⟩:=b;obtain⟨m',hr,h1,h2,h3,h4,h5,h6⟩:=jgi (w:=w) (C:=C) (env:=env) hb (Nat.le_refl 0);refine⟨?_,trivial⟩;obtain rfl:m'=0:=by omega
   obtain rfl:hh=0:=by omega
   obtain rfl:l=0:=by omega
   simp[Instr.sliceAt,Instr.slice,run_underlying ht,AV.val,hr,ja2 hn]
  ·cases hs
 ·-- known
  rename_i i o n c;split at hs
  ·rename_i l hh m hb;cases hs;obtain⟨m',hr,h1,h2,h3,h4,h5,h6⟩:=jgi (w:=w) (C:=C) (env:=env) hb (Nat.le_refl c);have hm:m'=m:=by
    cases mx with
    |none=>have:=h6 rfl;omega
    |some _=>exact(h5 rfl).1
   subst hm;refine⟨?_,hx⟩;by_cases hml:m'=l
   ·simp[Instr.sliceAt,Instr.slice,run_underlying ht,AV.val,Cap.at,hr,ja2 hn,hml]
   ·simp[Instr.sliceAt,Instr.slice,run_underlying ht,AV.val,Cap.at,hr,ja2 hn,hml,jdt,Nat.add_assoc]
  ·cases hs
 ·-- unknown
  rename_i i o n l0;split at hs
  ·rename_i vs u hi';split at hs
   ·rename_i hcond;obtain⟨rfl,ho,hle⟩:=hcond;have hcap:=jhI R hi' hsz ho hle;split at hs
    ·rename_i l hh m hb;obtain⟨m',hr,h1,h2,h3,h4,h5,h6⟩:=jgi (w:=w) (C:=C) (env:=env) hb hcap.1;cases mx with
     |some vm=>
      simp at hs;obtain⟨rfl,_⟩:=h5 rfl;subst hs;refine⟨?_,hx⟩;by_cases hml:m'=l
      ·simp only[Option.map_some]at hr;simp[Instr.sliceAt,Instr.slice,run_underlying ht,AV.val,Cap.at,hr,ja2 hn,hml]
      ·simp only[Option.map_some]at hr;simp[Instr.sliceAt,Instr.slice,run_underlying ht,AV.val,Cap.at,hr,ja2 hn,hml,jdt,Nat.add_assoc]
     | none =>
      simp at hs;obtain⟨hlh,rfl⟩:=hs;obtain⟨rfl,_⟩:=h6 rfl;refine⟨?_,hx⟩;simp only[Option.map_none]at hr;have hsub:(env i).cap-(l0+l)=(env i).cap-l0-l:=by omega
      rcases hlh with hlh|rfl
      ·have hne:¬((env i).cap-l0=l):=by omega
       simp[Instr.sliceAt,Instr.slice,run_underlying ht,AV.val,Cap.at,hr,ja2 hn,hne,jdt,Nat.add_assoc,hsub]
      ·simp[Instr.sliceAt,Instr.slice,run_underlying ht,AV.val,Cap.at,hr,ja2 hn,jdt]
    ·cases hs
   ·cases hs
  ·cases hs
 ·cases hs
end
section
variable {C : Ctx} {keep : Keep} {env : Env} {h : Heap} {w : World} {P : Program}
theorem jpK(op:BinOp)(t:TypeId)(k:IntKind)(a b:Int){v:AV}(h1:op≠.shl)(h2:op≠.shr)(hv:jbJ op k a b=some v)(lk:Nat->FuncId):
  (binOp op t (.int k a) (.int k b)).run P w=.ok (v.val lk env) w:=by
 cases op
 case shl=>exact absurd rfl h1
 case shr=>exact absurd rfl h2
 case quo=>
  simp only[jbJ]at hv;split at hv
  ·cases hv
  ·rename_i hb;cases hv;simp[AV.val,binOp,Op.intDiv,hb]
 case rem=>
  simp only[jbJ]at hv;split at hv
  ·cases hv
  ·rename_i hb;cases hv;simp[AV.val,binOp,Op.intDiv,hb]
 all_goals first
  |(cases hv;simp[AV.val,binOp,Op.intArith];done)
  |(cases hv;simp[AV.val,binOp,Op.intBits,bitsA];done)
  |(cases hv;simp[AV.val,binOp,Op.intCmp];done)
  |(cases hv;done)
theorem jty(op:BinOp)(t:TypeId){x y v:AV}(hv:binA op x y=some v)(lk:Nat->FuncId):
  (binOp op t (x.val lk env) (y.val lk env)).run P w=.ok (v.val lk env) w:=by
 unfold binA at hv;split at hv
 ·split at hv
  ·cases hv
  ·rename_i hb;cases hv;simp[AV.val,binOp,Op.shift,hb]
 ·split at hv
  ·cases hv
  ·rename_i hb;cases hv;simp[AV.val,binOp,Op.shift,hb]
 ·rename_i h1 h2;split at hv
  ·rename_i hk;subst hk;exact jpK _ t _ _ _ h1 h2 hv lk
  ·cases hv
 ·cases hv
theorem jpL(op:BinOp)(t:TypeId)(x y:Operand){a b v:AV}(hv:binA op a b=some v)(lk:Nat->FuncId):
  (eqGuard op t x y (a.val lk env) (b.val lk env)).run P w=.ok () w:=by
 have key:∀k m k' m',(eqGuard op t x y (.int k m) (.int k' m')).run P w=.ok () w:=by
  intro k m k' m';cases op<;>simp[eqGuard]
 unfold binA at hv;split at hv<;>first|exact key _ _ _ _|cases hv
theorem jtc(op:UnOp){x v:AV}(hv:unA op x=some v)(lk:Nat->FuncId):(Op.unary op (x.val lk env)).run P w=.ok (v.val lk env) w:=by
 unfold unA at hv;split at hv
 ·cases hv;simp[AV.val,Op.unary,Op.intArith]
 ·cases hv;simp[AV.val,Op.unary,Op.intBits,bitsA]
 ·cases hv;simp[AV.val,Op.unary]
 ·cases hv
theorem jdy{f:Option AV->AV->Option AV}(hf:∀y,f none y=none):∀xs:List AV,xs.foldl f none=none
 |[]=>rfl
 |y::ys=>by rw[List.foldl_cons,hf,jdy hf ys]
theorem jpM(lk:Nat->FuncId):∀(xs:List AV) (k:IntKind) (n:Int) (v:AV),xs.foldl jc1 (some (.int k n))=some v->
  ((xs.map (AV.val lk env)).foldlM Builtin.max2 (.int k n)).run P w=.ok (v.val lk env) w/\∃k m,v=.int k m
 |[],k,n,v,hv=>by cases hv;exact⟨by simp[AV.val],_,_,rfl⟩
 | y :: ys, k, n, v, hv => by
  rw[List.foldl_cons]at hv;have hbad:jc1 (some (.int k n)) y=none->False:=fun e=>by rw[e,jdy (fun _=>rfl)]at hv;cases hv
  cases y with
  |int k' b=>
   by_cases hk:k=k'
   ·subst hk;have ih:=jpM lk ys k (if b>n then b else n) v (by simpa[jc1]using hv);refine⟨?_,ih.2⟩;simp only[List.map_cons,List.foldlM_cons,Sem.run_bind];rw[show(Builtin.max2 (.int k n) (AV.val lk env (.int k b))).run P w=.ok (.int k (if b>n then b else n)) w from by simp[AV.val,Builtin.max2]];exact ih.1
   ·exact(hbad (by simp[jc1,hk])).elim
  |_=>exact(hbad rfl).elim
theorem jpN(lk:Nat->FuncId):∀(xs:List AV) (k:IntKind) (n:Int) (v:AV),xs.foldl jc2 (some (.int k n))=some v->
  ((xs.map (AV.val lk env)).foldlM Builtin.min2 (.int k n)).run P w=.ok (v.val lk env) w/\∃k m,v=.int k m
 |[],k,n,v,hv=>by cases hv;exact⟨by simp[AV.val],_,_,rfl⟩
 | y :: ys, k, n, v, hv => by
  rw[List.foldl_cons]at hv;have hbad:jc2 (some (.int k n)) y=none->False:=fun e=>by rw[e,jdy (fun _=>rfl)]at hv;cases hv
  cases y with
  |int k' b=>
   by_cases hk:k=k'
   ·subst hk;have ih:=jpN lk ys k (if b<n then b else n) v (by simpa[jc2]using hv);refine⟨?_,ih.2⟩;simp only[List.map_cons,List.foldlM_cons,Sem.run_bind];rw[show(Builtin.min2 (.int k n) (AV.val lk env (.int k b))).run P w=.ok (.int k (if b<n then b else n)) w from by simp[AV.val,Builtin.min2]];exact ih.1
   ·exact(hbad (by simp[jc2,hk])).elim
  |_=>exact(hbad rfl).elim
theorem jrQ(lk:Nat->FuncId)(t:Array TypeId)(ty:TypeId){xs:List AV}{v:AV}(hv:maxA xs=some v):
  (Builtin.max_ t ty (xs.map (AV.val lk env)).toArray).run P w=.ok (v.val lk env) w/\∃k m,v=.int k m:=by
 unfold maxA at hv;split at hv
 ·exact jpM lk _ _ _ v hv
 ·cases hv
theorem jrR(lk:Nat->FuncId)(t:Array TypeId)(ty:TypeId){xs:List AV}{v:AV}(hv:minA xs=some v):
  (Builtin.min_ t ty (xs.map (AV.val lk env)).toArray).run P w=.ok (v.val lk env) w/\∃k m,v=.int k m:=by
 unfold minA at hv;split at hv
 ·exact jpN lk _ _ _ v hv
 ·cases hv
theorem jow{p:Nat->Prop}{op:BinOp}{k:IntKind}{a b:Int}{v:AV}(hv:jbJ op k a b=some v):v.bel p:=by
 cases op<;>simp only[jbJ]at hv
 case quo=>split at hv<;>cases hv;trivial
 case rem=>split at hv<;>cases hv;trivial
 all_goals first
  |(cases hv;done)
  |(cases hv;trivial)
theorem jrS{p:Nat->Prop}{op:BinOp}{x y v:AV}(hv:binA op x y=some v):v.bel p:=by
 unfold binA at hv;split at hv
 ·split at hv<;>cases hv;trivial
 ·split at hv<;>cases hv;trivial
 ·split at hv
  ·exact jow hv
  ·cases hv
 ·cases hv
theorem jpO{p:Nat->Prop}{op:UnOp}{x v:AV}(hv:unA op x=some v):v.bel p:=by
 unfold unA at hv;split at hv<;>cases hv<;>trivial
theorem jcC(lk:Nat->FuncId)(d:Nat)(xs ys:List AV):∀(fs:List Field) (ls:List (Nat×Bool)) (r:Bool),leavesOf P fs=some ls->jaB xs ys ls=some r->
  (Op.eqFields (d+1) (xs.map (AV.val lk env)).toArray (ys.map (AV.val lk env)).toArray fs).run P w=.ok r w
 |[],ls,r,hl,he=>by cases hl;cases he;simp[Op.eqFields]
 | f :: fs, ls, r, hl, he => by
  have hagg:∀dsc,P.underlying f.type=some dsc->(match dsc with|.struct _|.array _ _=>true|_=>false)=false->aggT P f.type=some false:=by
   intro dsc h1 h2;unfold aggT;rw[h1];cases dsc<;>simp_all
  unfold leavesOf at hl;split at hl
  ·cases hl
  ·rename_i hname;have part1:aggT P f.type=some false->∀(zs:List AV) (a:AV),zs[f.offset]? =some a->(part f.type (zs.map (AV.val lk env)).toArray f.offset).run P w=.ok (a.val lk env) w:=by
    intro hg zs a ha;simp[part,jbG hg,ha]
   split at hl
   ·rename_i k ls' hu hls;cases hl;simp only[jaB]at he;have hg:=hagg _ hu rfl;split at he
    ·rename_i k1 a k2 b r' ha hb hr;split at he
     ·rename_i hk;cases he;subst hk;have ih:=jcC lk d xs ys fs ls' r' hls hr;simp only[Op.eqFields,if_pos hname,Sem.run_bind,part1 hg xs _ ha,part1 hg ys _ hb,Result.andThen_ok,AV.val,run_equalIn_int w d f.type k1 k a b hu];cases hab:(a==b)<;>simp[ih]
     ·cases he
    ·cases he
   ·rename_i ls' hu hls;cases hl;simp only[jaB]at he;have hg:=hagg _ hu rfl;split at he
    ·rename_i a b r' ha hb hr;cases he;have ih:=jcC lk d xs ys fs ls' r' hls hr;simp only[Op.eqFields,if_pos hname,Sem.run_bind,part1 hg xs _ ha,part1 hg ys _ hb,Result.andThen_ok,AV.val,run_equalIn_bool' w d f.type a b hu];cases hab:(a==b)<;>simp[ih]
    ·cases he
   ·cases hl
theorem jdY{xs ys:List AV}:∀(zas bs:List (Nat×Bool)) (r:Bool),jaB xs ys (zas++bs)=some r->∃r1 r2,jaB xs ys zas=some r1/\jaB xs ys bs=some r2/\r=(r1&&r2)
 |[],bs,r,h=>⟨true,r,rfl,h,by simp⟩
 | (o, false) :: zas, bs, r, h => by
  rw[List.cons_append]at h;simp only[jaB]at h;split at h
  ·rename_i k1 a k2 b r' ha hb hr;split at h
   ·rename_i hk;cases h;obtain⟨r1,r2,h1,h2,rfl⟩:=jdY zas bs r' hr;exact⟨a==b&&r1,r2,by simp only[jaB,ha,hb,h1,if_pos hk],h2,by rw[Bool.and_assoc]⟩
   ·cases h
  ·cases h
 |(o,true)::zas,bs,r,h=>by
  rw[List.cons_append]at h;simp only[jaB]at h;split at h
  ·rename_i a b r' ha hb hr;cases h;obtain⟨r1,r2,h1,h2,rfl⟩:=jdY zas bs r' hr;exact⟨a==b&&r1,r2,by simp only[jaB,ha,hb,h1],h2,by rw[Bool.and_assoc]⟩
  ·cases h
theorem jpP{xs:List AV}{off n o:Nat}(h:o<n):((xs.drop off).take n)[o]? =xs[off+o]? :=by
 rw[List.getElem?_take_of_lt h,List.getElem?_drop]
theorem jcQ{xs ys:List AV}{off n:Nat}:∀(ms:List (Nat×Bool)) (r:Bool),(∀p∈ms,p.1<n)->jaB xs ys (ms.map fun p=>(off+p.1,p.2))=some r->jaB ((xs.drop off).take n) ((ys.drop off).take n) ms=some r
 |[],r,_,h=>h
 | (o, false) :: ms, r, hm, h => by
  have ho:o<n:=hm (o,false) (by simp);rw[List.map_cons]at h;simp only[jaB]at h;split at h
  ·rename_i k1 a k2 b r' ha hb hr;split at h
   ·rename_i hk;cases h;have ih:=jcQ ms r' (fun p hp=>hm p (by simp[hp])) hr;simp only[jaB,jpP ho,ha,hb,ih,if_pos hk]
   ·cases h
  ·cases h
 |(o,true)::ms,r,hm,h=>by
  have ho:o<n:=hm (o,true) (by simp);rw[List.map_cons]at h;simp only[jaB]at h;split at h
  ·rename_i a b r' ha hb hr;cases h;have ih:=jcQ ms r' (fun p hp=>hm p (by simp[hp])) hr;simp only[jaB,jpP ho,ha,hb,ih]
  ·cases h
theorem jcR(lk:Nat->FuncId)(d:Nat)(xs ys:List AV):∀(fs:List Field) (ls:List (Nat×Bool)) (r:Bool),leavesOf2 P fs=some ls->jaB xs ys ls=some r->
  (Op.eqFields (d+2) (xs.map (AV.val lk env)).toArray (ys.map (AV.val lk env)).toArray fs).run P w=.ok r w
 |[],ls,r,hl,he=>by cases hl;cases he;simp[Op.eqFields]
 | f :: fs, ls, r, hl, he => by
  have hagg:∀dsc,P.underlying f.type=some dsc->(match dsc with|.struct _|.array _ _=>true|_=>false)=false->aggT P f.type=some false:=by
   intro dsc h1 h2;unfold aggT;rw[h1];cases dsc<;>simp_all
  unfold leavesOf2 at hl;split at hl
  ·cases hl
  ·rename_i hname;have part1:aggT P f.type=some false->∀(zs:List AV) (a:AV),zs[f.offset]? =some a->(part f.type (zs.map (AV.val lk env)).toArray f.offset).run P w=.ok (a.val lk env) w:=by
    intro hg zs a ha;simp[part,jbG hg,ha]
   split at hl
   ·rename_i k ls' hu hls;cases hl;simp only[jaB]at he;have hg:=hagg _ hu rfl;split at he
    ·rename_i k1 a k2 b r' ha hb hr;split at he
     ·rename_i hk;cases he;subst hk;have ih:=jcR lk d xs ys fs ls' r' hls hr;simp only[Op.eqFields,if_pos hname,Sem.run_bind,part1 hg xs _ ha,part1 hg ys _ hb,Result.andThen_ok,AV.val,run_equalIn_int w (d+1) f.type k1 k a b hu];cases hab:(a==b)<;>simp[ih]
     ·cases he
    ·cases he
   ·rename_i ls' hu hls;cases hl;simp only[jaB]at he;have hg:=hagg _ hu rfl;split at he
    ·rename_i a b r' ha hb hr;cases he;have ih:=jcR lk d xs ys fs ls' r' hls hr;simp only[Op.eqFields,if_pos hname,Sem.run_bind,part1 hg xs _ ha,part1 hg ys _ hb,Result.andThen_ok,AV.val,run_equalIn_bool' w (d+1) f.type a b hu];cases hab:(a==b)<;>simp[ih]
    ·cases he
   ·rename_i gs ls' hu hls;split at hl
    ·rename_i hst;split at hl
     ·rename_i ms n hms hn;split at hl
      ·rename_i hall;cases hl;obtain⟨r1,r2,h1,h2,rfl⟩:=jdY _ _ _ he;have hm:∀p∈ms,p.1<n:=fun p hp=>by simpa using List.all_eq_true.1 hall p hp
       have h1':=jcQ ms r1 hm h1;have ih:=jcR lk d xs ys fs ls' r2 hls h2;have hg:aggT P f.type=some true:=by unfold aggT;rw[hu]
       have part2:∀(zs:List AV),(part f.type (zs.map (AV.val lk env)).toArray f.offset).run P w=.ok (.agg (((zs.drop f.offset).take n).map (AV.val lk env)).toArray) w:=by
        intro zs;simp[part,jbG hg,ja2 hn,List.map_drop,List.map_take]
       have hfo:P.fieldsOf f.type=gs:=by simp[Program.fieldsOf,hu]
       have q:=run_equalIn_struct (P:=P) w (d+1) f.type (((xs.drop f.offset).take n).map (AV.val lk env)).toArray (((ys.drop f.offset).take n).map (AV.val lk env)).toArray (by rw[hfo];exact hu) hst;rw[hfo,jcC lk d _ _ gs.toList ms r1 hms h1']at q;simp only[Op.eqFields,if_pos hname,Sem.run_bind,part2,Result.andThen_ok,q];cases r1<;>simp[ih]
      ·cases hl
     ·cases hl
    ·cases hl
   ·cases hl
end
theorem jpQ(off:Nat):∀(cs:List Value) (k:Nat) (A:Array Value),off+k+cs.length<=A.size->
  (cs.zipIdx k).foldl (fun a p=>a.setIfInBounds (off+p.2) p.1) A=(A.toList.take (off+k)++cs++A.toList.drop (off+k+cs.length)).toArray
 |[],k,A,_=>by simp
 |c::cs,k,A,hk=>by
  have ih:=jpQ off cs (k+1) (A.setIfInBounds (off+k) c) (by simp at hk|-;omega);simp only[List.zipIdx_cons,List.foldl_cons];rw[ih];congr 1;have e:=list_seg_step A.toList (off+k) c cs (by simp at hk|-;omega);simpa[Array.toList_setIfInBounds,Nat.add_assoc]using e
inductive Parts (lk:Nat->FuncId) (env:Env) (place:Nat->Option (Nat×Nat)):List (Nat×Value)->List (Nat×Nat×AV)->Prop
 |nil:Parts lk env place [] []
 |cons {i o n:Nat} {v:Value} {a:AV} {ps:List (Nat×Value)} {zas:List (Nat×Nat×AV)} (h1:place i=some (o,n)) (h2:v=a.val lk env) (h3:Parts lk env place ps zas):Parts lk env place ((i,v)::ps) ((o,n,a)::zas)
theorem jfG(lk:Nat->FuncId)(env:Env)(place:Nat->Option (Nat×Nat)):∀(ps:List (Nat×Value)) (zas:List (Nat×Nat×AV)) (z out:List AV),
  Parts lk env place ps zas->fillA z zas=some out->
  Instr.fill place (z.map (AV.val lk env)).toArray ps=some (out.map (AV.val lk env)).toArray
 |[],zas,z,out,hf,ho=>by cases hf;cases ho;rfl
 | (i, v) :: ps, zas, z, out, hf, ho => by
  cases hf with
  | cons hp1 hp2 hrest =>
   rename_i o n x as';simp only[fillA]at ho;split at ho
   ·rename_i hc;have ih:=jfG lk env place ps as' _ out hrest ho;have hcs:v.cells.size=n:=by rw[hp2,jfE];simp[hc.1]
    simp only[Instr.fill,hp1];rw[if_neg (by simp[hcs];omega)];have hm:=jpQ o v.cells.toList 0 (z.map (AV.val lk env)).toArray (by simp[hcs];omega);have hfold:v.cells.zipIdx.foldl (fun cs (p:Value×Nat)=>cs.setIfInBounds (o+p.2) p.1) (z.map (AV.val lk env)).toArray=
      (v.cells.toList.zipIdx 0).foldl (fun a p=>a.setIfInBounds (o+p.2) p.1) (z.map (AV.val lk env)).toArray:=by
     rw[<-Array.foldl_toList,Array.toList_zipIdx]
    rw[show(v.cells.zipIdx.foldl (fun cs x=>match x with|(c,j)=>cs.setIfInBounds (o+j) c) (z.map (AV.val lk env)).toArray)=
     v.cells.zipIdx.foldl (fun cs (p:Value×Nat)=>cs.setIfInBounds (o+p.2) p.1) (z.map (AV.val lk env)).toArray from rfl,hfold,hm]
    rw[<-ih];congr 2;rw[hp2,jfE];simp[hc.1,List.map_take,List.map_drop]
   ·cases ho
theorem jgV:∀(zas:List (Nat×Nat×AV)) (z out:List AV),fillA z zas=some out->out.length=z.length
 |[],z,out,h=>by cases h;rfl
 |(o,n,v)::zas,z,out,h=>by
  simp only[fillA]at h;split at h
  ·rename_i hc;rw[jgV zas _ out h];simp;omega
  ·cases h
theorem jfH{p:AV->Prop}:∀(zas:List (Nat×Nat×AV)) (z out:List AV),fillA z zas=some out->(∀x∈z,p x)->(∀a∈zas,∀x∈a.2.2.cells,p x)->∀x∈out,p x
 |[],z,out,h,hz,_=>by cases h;exact hz
 | (o, n, v) :: zas, z, out, h, hz, ha => by
  simp only[fillA]at h;split at h
  ·refine jfH zas _ out h ?_ (fun a h'=>ha a (List.mem_cons_of_mem _ h'));intro x hx;rw[List.mem_append,List.mem_append]at hx;rcases hx with(hx|hx)|hx
   ·exact hz x (List.mem_of_mem_take hx)
   ·exact ha _ (List.mem_cons_self ..) x hx
   ·exact hz x (List.mem_of_mem_drop hx)
  ·cases h
section
variable {C : Ctx} {keep : Keep} {env : Env} {h : Heap} {w : World}
theorem jcb{ρ:Operand->Value}{ev:AOpd->AV}(hρ:∀x ax,lowerOpd C.inv x=some ax->ρ x=(ev ax).val C.lk env/\(ev ax).bel h.ok)(place:Nat->Option (Nat×Nat)):
  ∀(ps:List (Nat×Operand)) (zas:List (Nat×Nat×AOpd)),jcU C.inv place ps=some zas->
   Parts C.lk env place (ps.map fun p=>(p.1,ρ p.2)) (zas.map fun p=>(p.1,p.2.1,ev p.2.2))/\
   ∀a∈zas.map (fun p=>(p.1,p.2.1,ev p.2.2)),∀x∈a.2.2.cells,x.bel h.ok
 |[],zas,hl=>by cases hl;exact⟨.nil,by simp⟩
 | (i, x) :: ps, zas, hl => by
  unfold jcU at hl;split at hl
  ·rename_i o n a as' h1 h2 h3;cases hl;have ih:=jcb hρ place ps as' h3;have hx:=hρ x a h2;refine⟨.cons h1 hx.1 ih.1,?_⟩;intro b hb y hy;rcases List.mem_cons.1 hb with rfl|hb
   ·exact jhF hx.2 y hy
   ·exact ih.2 b hb y hy
  ·cases hl
theorem jen{P:Program}:∀(fs:List Field) (ps:List (Nat×Nat)),jdW P fs=some ps->
  fs.mapM (fun f=>(P.info? f.type).map fun i=>(f.offset,i.size))=some ps
 |[],ps,hp=>by cases hp;rfl
 |f::fs,ps,hp=>by
  unfold jdW at hp;split at hp
  ·rename_i n r h1 h2;cases hp;obtain⟨i,hi,hs⟩:=jgh h1;simp[List.mapM_cons,hi,hs,jen fs r h2]
  ·cases hp
theorem jhJ{ρ:Operand->Value}{ev:AOpd->AV}(hρ:∀x ax,lowerOpd C.inv x=some ax->ρ x=(ev ax).val C.lk env/\(ev ax).bel h.ok)
  {t:TypeId} {parts:Array (Nat×Operand)} {aop:AOp} (hl:jbF C.P C.inv t parts=some aop):
  ∃z ps,aop=.build z ps/\∀out,fillA z (ps.map fun p=>(p.1,p.2.1,ev p.2.2))=some out->
   (Instr.build t (parts.map fun(i,x)=>(i,ρ x))).run C.P w=.ok ((AV.agg out).val C.lk env) w/\(AV.agg out).bel h.ok:=by
 have hparts:(parts.map fun(x:Nat×Operand)=>(x.1,ρ x.2)).toList=parts.toList.map fun p=>(p.1,ρ p.2):=by simp
 unfold jbF at hl;split at hl
 ·rename_i z fields hz hd;obtain⟨i,v,hi,hv,hs,hzv,hzl,hzb,_⟩:=jcm hz C.lk env h.ok;have hzc:v.cells=(z.map (AV.val C.lk env)).toArray:=by rw[hzv]
  split at hl
  ·rename_i ps hps;simp only[Option.map_eq_some_iff]at hl;obtain⟨zas,has,rfl⟩:=hl;refine⟨z,zas,rfl,fun out hout=>?_⟩;have hp:=jcb hρ _ _ _ has;have hfill:=jfG C.lk env _ _ _ z out hp.1 hout;refine⟨?_,(ja9 _ _).2 (jfH _ _ _ hout hzb hp.2)⟩;have hplace:(fun(i:Nat)=>ps.toArray[i]?)=fun(i:Nat)=>ps[i]? :=by funext i;simp
   have hb:C.P.built t (parts.map fun(x:Nat×Operand)=>(x.1,ρ x.2)).toList=some (out.map (AV.val C.lk env)).toArray:=by
    unfold Program.built;rw[hi,hd];simp only[hv,jen _ _ hps,hzc,hparts,hplace,hfill]
   rw[show(parts.map fun(i,x)=>(i,ρ x))=parts.map fun(x:Nat×Operand)=>(x.1,ρ x.2)from rfl,run_build w t _ _ hb];simp[AV.val,jbn]
  ·cases hl
 ·rename_i z ln e hz hd;obtain⟨i,v,hi,hv,hs,hzv,hzl,hzb,_⟩:=jcm hz C.lk env h.ok;have hzc:v.cells=(z.map (AV.val C.lk env)).toArray:=by rw[hzv]
  split at hl
  ·rename_i n hn;simp only[Option.map_eq_some_iff]at hl;obtain⟨zas,has,rfl⟩:=hl;refine⟨z,zas,rfl,fun out hout=>?_⟩;have hp:=jcb hρ _ _ _ has;have hfill:=jfG C.lk env _ _ _ z out hp.1 hout;refine⟨?_,(ja9 _ _).2 (jfH _ _ _ hout hzb hp.2)⟩;obtain⟨ie,hie,hse⟩:=jgh hn;have hb:C.P.built t (parts.map fun(x:Nat×Operand)=>(x.1,ρ x.2)).toList=some (out.map (AV.val C.lk env)).toArray:=by
    unfold Program.built;rw[hi,hd];simp only[hv,hie,hse,hzc,hparts,hfill]
   rw[show(parts.map fun(i,x)=>(i,ρ x))=parts.map fun(x:Nat×Operand)=>(x.1,ρ x.2)from rfl,run_build w t _ _ hb];simp[AV.val,jbn]
  ·cases hl
 ·cases hl
def jpR(C:Ctx)(env:Env)(h:Heap)(w:World)(ρ:Operand->Value)(o:Oper)(v:AV):Prop:=
 (execOp ρ o).run C.P w=.ok (.value (v.val C.lk env)) w/\v.bel h.ok
theorem jtz{h:Heap}{vs:List AV}(hb:kar h.ok vs){i:Nat}{v:AV}(hv:vs[i]? =some v):v.bel h.ok:=(ja9 _ _).1 hb v (List.mem_of_getElem? hv)
theorem jdZ{ρ:Operand->Value}{ev:AOpd->AV}(hρ:∀x ax,lowerOpd C.inv x=some ax->ρ x=(ev ax).val C.lk env/\(ev ax).bel h.ok)
  {x:Option Operand} {ax:Option AOpd} (hx:lowerOpt C.inv x=some ax):x.map ρ=(ax.map ev).map (AV.val C.lk env):=by
 cases x with
 |none=>cases hx;rfl
 |some x=>
  simp only[lowerOpt,Option.map_eq_some_iff]at hx;obtain⟨a,ha,rfl⟩:=hx;simp[(hρ x a ha).1]
end
section
variable {C : Ctx} {keep : Keep} {env : Env} {h : Heap} {w : World} {P : Program}
theorem jdz{r:Nat}{es:Array MapEntry}{clock:Nat}(hb:w.heap[r]? =some (.map es clock)):(getObj r).run P w=.ok (.map es clock) w:=by simp[getObj,Sem.run,hb]
theorem jjf{r:Nat}{es:Array MapEntry}{clock:Nat}(o:Obj)(hb:w.heap[r]? =some (.map es clock)):(setObj r o).run P w=.ok () {w with heap:=w.heap.setIfInBounds r o}:=by simp[setObj,Sem.run,hb]
theorem jfj(lk:Nat->FuncId)(em:Bool)(n:Nat)(xs:List AV):∀(fs:List Field) (ls:List (Nat×Bool)) (r:Bool),leavesOf P fs=some ls->jaB xs xs ls=some r->
  (forIn fs PUnit.unit (fun f (_:PUnit)=>(do
   if f.name≠ "_" then
    let y<-part f.type (xs.map (AV.val lk env)).toArray f.offset
    Instr.checkKey em (n+1) f.type y
    pure (ForInStep.yield PUnit.unit)
   else pure (ForInStep.yield PUnit.unit):Sem (ForInStep PUnit)))).run P w=.ok PUnit.unit w
 |[],ls,r,hl,he=>by simp
 | f :: fs, ls, r, hl, he => by
  have hagg:∀dsc,P.underlying f.type=some dsc->(match dsc with|.struct _|.array _ _=>true|_=>false)=false->aggT P f.type=some false:=by
   intro dsc h1 h2;unfold aggT;rw[h1];cases dsc<;>simp_all
  unfold leavesOf at hl;split at hl
  ·cases hl
  ·rename_i hname;have part1:aggT P f.type=some false->∀(a:AV),xs[f.offset]? =some a->(part f.type (xs.map (AV.val lk env)).toArray f.offset).run P w=.ok (a.val lk env) w:=by
    intro hg a ha;simp[part,jbG hg,ha]
   have chk:∀(d:TypeDesc) (v:Value),P.underlying f.type=some d->(match d with|.interface _|.struct _|.array _ _=>true|_=>false)=false->(Instr.checkKey em (n+1) f.type v).run P w=.ok () w:=by
    intro d v hd hq;unfold Instr.checkKey;simp only[Sem.run_bind,run_underlying hd,Result.andThen_ok];cases d<;>simp_all
   split at hl
   ·rename_i k ls' hu hls;cases hl;simp only[jaB]at he;have hg:=hagg _ hu rfl;split at he
    ·rename_i k1 a k2 b r' ha hb hr;have ih:=jfj lk em n xs fs ls' r' hls hr;rw[List.forIn_cons];simp only[ne_eq,hname,not_false_eq_true,if_true,Sem.run_bind,part1 hg _ ha,chk _ _ hu rfl,Result.andThen_ok,Sem.run_pure];simpa using ih
    ·cases he
   ·rename_i ls' hu hls;cases hl;simp only[jaB]at he;have hg:=hagg _ hu rfl;split at he
    ·rename_i a b r' ha hb hr;have ih:=jfj lk em n xs fs ls' r' hls hr;rw[List.forIn_cons];simp only[ne_eq,hname,not_false_eq_true,if_true,Sem.run_bind,part1 hg _ ha,chk _ _ hu rfl,Result.andThen_ok,Sem.run_pure];simpa using ih
    ·cases he
   ·cases hl
theorem jk9{x y:AV}{r:Bool}(h:keyEq .int x y=some r):∃k a b,x=.int k a/\y=.int k b/\r=(a==b):=by
 unfold keyEq at h;split at h<;>first|contradiction|skip
 split at h
 ·rename_i e;subst e;cases h;exact⟨_,_,_,rfl,rfl,rfl⟩
 ·cases h
theorem jjg{x y:AV}{r:Bool}(h:keyEq .bool x y=some r):∃a b,x=.bool a/\y=.bool b/\r=(a==b):=by
 unfold keyEq at h;split at h<;>first|contradiction|skip
 cases h;exact⟨_,_,rfl,rfl,rfl⟩
theorem jdh{x y:AV}{ls:List (Nat×Bool)}{r:Bool}(h:keyEq (.struct ls) x y=some r):∃xs ys,x=.agg xs/\y=.agg ys/\jaB xs ys ls=some r:=by
 unfold keyEq at h;split at h<;>first|contradiction|skip
 rename_i e;cases e;exact⟨_,_,rfl,rfl,h⟩
theorem jex(lk:Nat->FuncId)(em:Bool){kt:TypeId}{ks:AKey}(hk:keyT P kt=some ks){k:AV}(he:(keyEq ks k k).isSome=true):(Instr.checkKey em 10000 kt (k.val lk env)).run P w=.ok () w:=by
 obtain⟨r,hr⟩:=Option.isSome_iff_exists.1 he;unfold keyT at hk;split at hk
 ·rename_i q hu;cases hk;obtain⟨_,_,_,rfl,_,_⟩:=jk9 hr;show(Instr.checkKey em (9999+1) kt _).run P w=_;unfold Instr.checkKey;simp only[Sem.run_bind,run_underlying hu,Result.andThen_ok,AV.val];rfl
 ·rename_i hu;cases hk;obtain⟨_,_,rfl,_,_⟩:=jjg hr;show(Instr.checkKey em (9999+1) kt _).run P w=_;unfold Instr.checkKey;simp only[Sem.run_bind,run_underlying hu,Result.andThen_ok,AV.val];rfl
 ·rename_i fs hu;split at hk
  ·rename_i hst;simp only[Option.map_eq_some_iff]at hk;obtain⟨ls,hls,rfl⟩:=hk;obtain⟨xs,ys,rfl,e,h1⟩:=jdh hr;cases e;show(Instr.checkKey em (9999+1) kt _).run P w=_;unfold Instr.checkKey;simp only[Sem.run_bind,run_underlying hu,Result.andThen_ok,AV.val,jbn];have q:=jfj (w:=w) (env:=env) lk em 9998 xs fs.toList ls r hls h1;rw[<-Array.forIn_toList];refine(congrArg (fun r=>Result.andThen r _) q).trans ?_;rfl
  ·cases hk
 ·cases hk
theorem jbt{inv:FuncId->Option Nat}{op:Op}{f:AOpd}{args:List AOpd}(h:lowerMap P inv op=some (.call f args)):False:=by
 cases op<;>simp only[lowerMap]at h
 case makeMap t r=>
  cases r<;>simp only at h
  ·split at h<;>cases h
  ·cases h
 case mapUpdate=>
  split at h
  ·simp only[Option.map_eq_some_iff]at h;obtain⟨_,_,h⟩:=h;cases h
  ·cases h
 case insert=>
  split at h
  ·simp only[Option.map_eq_some_iff]at h;obtain⟨_,_,h⟩:=h;cases h
  ·cases h
 case lookup=>
  split at h
  ·split at h<;>cases h
  ·cases h
 all_goals cases h
def Held(lk:Nat->FuncId)(env:Env)(ents:List MapEntry)(es:List (AV×AV)):Prop:=
 ents.map (fun x=>(x.key,x.val))=es.map fun p=>(p.1.val lk env,p.2.val lk env)
theorem Held.cons{lk:Nat->FuncId}{ents:List MapEntry}{e:AV×AV}{es:List (AV×AV)}(h:Held lk env ents (e::es)):∃x xs,ents=x::xs/\x.key=e.1.val lk env/\x.val=e.2.val lk env/\Held lk env xs es:=by
 cases ents with
 |nil=>cases h
 |cons x xs=>
  simp only[Held,List.map_cons,List.cons.injEq,Prod.mk.injEq]at h;exact⟨x,xs,rfl,h.1.1,h.1.2,h.2⟩
theorem Held.nil{lk:Nat->FuncId}{ents:List MapEntry}(h:Held lk env ents []):ents=[]:=by
 cases ents with
 |nil=>rfl
 |cons x xs=>cases h
def found(lk:Nat->FuncId)(env:Env)(r:Option (Nat×AV)):Option (Nat×Value):=r.map fun p=>(p.1,p.2.val lk env)
theorem jmq(lk:Nat->FuncId)(q:IntKind){k:AV}:∀(es:List (AV×AV)) (ents:List MapEntry) (i:Nat) (r:Option (Nat×AV)),Held lk env ents es->findA .int k es i=some r->
  Instr.findNow (.int q) (k.val lk env) ents i=some (found lk env r)
 |[],ents,i,r,hh,hf=>by cases hh.nil;cases hf;rfl
 | e :: es, ents, i, r, hh, hf => by
  obtain⟨x,xs,rfl,h1,h2,h3⟩:=hh.cons;unfold findA at hf;cases hq:keyEq .int k e.1 with
  |none=>rw[hq]at hf;cases hf
  |some b=>
   obtain⟨kk,a,c,rfl,e2,rfl⟩:=jk9 hq;rw[e2]at h1;rw[hq]at hf;unfold Instr.findNow;rw[h1];simp only[AV.val,Instr.sameNow,if_true];cases hb:(a==c)with
   |true=>rw[hb]at hf;cases hf;simp[found,h2]
   |false=>rw[hb]at hf;exact jmq lk q es xs (i+1) r h3 hf
theorem jjR(lk:Nat->FuncId){k:AV}:∀(es:List (AV×AV)) (ents:List MapEntry) (i:Nat) (r:Option (Nat×AV)),Held lk env ents es->findA .bool k es i=some r->
  Instr.findNow .bool (k.val lk env) ents i=some (found lk env r)
 |[],ents,i,r,hh,hf=>by cases hh.nil;cases hf;rfl
 | e :: es, ents, i, r, hh, hf => by
  obtain⟨x,xs,rfl,h1,h2,h3⟩:=hh.cons;unfold findA at hf;cases hq:keyEq .bool k e.1 with
  |none=>rw[hq]at hf;cases hf
  |some b=>
   obtain⟨a,c,rfl,e2,rfl⟩:=jjg hq;rw[e2]at h1;rw[hq]at hf;unfold Instr.findNow;rw[h1];simp only[AV.val,Instr.sameNow];cases hb:(a==c)with
   |true=>rw[hb]at hf;cases hf;simp[found,h2]
   |false=>rw[hb]at hf;exact jjR lk es xs (i+1) r h3 hf
theorem jjh(lk:Nat->FuncId){kt:TypeId}{fs:Array Field}{ls:List (Nat×Bool)}(hu:P.underlying kt=some (.struct fs))(hst:P.stoodInHeld kt=false)(hls:leavesOf P fs.toList=some ls){k:AV}:
  ∀(es:List (AV×AV)) (ents:List MapEntry) (i:Nat) (r:Option (Nat×AV)),Held lk env ents es->findA (.struct ls) k es i=some r->
  (Instr.findAsking kt (k.val lk env) ents i).run P w=.ok (found lk env r) w
 |[],ents,i,r,hh,hf=>by cases hh.nil;cases hf;rfl
 | e :: es, ents, i, r, hh, hf => by
  obtain⟨x,xs,rfl,h1,h2,h3⟩:=hh.cons;unfold findA at hf;cases hq:keyEq (.struct ls) k e.1 with
  |none=>rw[hq]at hf;cases hf
  | some b =>
   obtain⟨zas,bs,rfl,e2,hc⟩:=jdh hq;rw[e2]at h1;rw[hq]at hf;have hfo:P.fieldsOf kt=fs:=by simp[Program.fieldsOf,hu]
   have q:=run_equalIn_struct (P:=P) w 9999 kt (zas.map (AV.val lk env)).toArray (bs.map (AV.val lk env)).toArray (by rw[hfo];exact hu) hst;rw[hfo,jcC lk 9998 zas bs fs.toList ls b hls hc]at q;unfold Instr.findAsking;rw[h1];simp only[AV.val,jbn,Op.equal,Op.maxDepth,Sem.run_bind,q,Result.andThen_ok];cases b with
   |true=>cases hf;simp[found,h2]
   |false=>
    have ih:=jjh lk hu hst hls (k:=.agg zas) es xs (i+1) r h3 hf;simp only[AV.val,jbn]at ih;simpa using ih
theorem jhl(lk:Nat->FuncId){kt:TypeId}{ks:AKey}(hk:keyT P kt=some ks){k:AV}{es:List (AV×AV)}{ents:List MapEntry}{r:Option (Nat×AV)}(hh:Held lk env ents es)(hf:findA ks k es 0=some r):
  (Instr.findKey kt (k.val lk env) ents).run P w=.ok (found lk env r) w:=by
 unfold keyT at hk;split at hk
 ·rename_i q hu;cases hk;simp only[Instr.findKey,Sem.run_bind,run_underlying hu,Result.andThen_ok,jmq lk q es ents 0 r hh hf,Sem.run_pure]
 ·rename_i hu;cases hk;simp only[Instr.findKey,Sem.run_bind,run_underlying hu,Result.andThen_ok,jjR lk es ents 0 r hh hf,Sem.run_pure]
 ·rename_i fs hu;split at hk
  ·rename_i hst;simp only[Option.map_eq_some_iff]at hk;obtain⟨ls,hls,rfl⟩:=hk;cases es with
   |nil=>
    cases hh.nil;cases hf;simp only[Instr.findKey,Sem.run_bind,run_underlying hu,Result.andThen_ok,Instr.findNow,Sem.run_pure];rfl
   | cons e es =>
    have a:=jjh (w:=w) lk hu hst hls (e::es) ents 0 r hh hf;obtain⟨x,xs,rfl,h1,h2,h3⟩:=hh.cons;have n:Instr.findNow (.struct fs) (k.val lk env) (x::xs) 0=none:=by
     unfold Instr.findNow;rfl
    simp only[Instr.findKey,Sem.run_bind,run_underlying hu,Result.andThen_ok,n,a]
  ·cases hk
 ·cases hk
theorem jla(lk:Nat->FuncId)(p:Nat->Prop){t:TypeId}{z:AV}(hz:zeroT P t=some z):(zeroValue t).run P w=.ok (z.val lk env) w/\z.bel p:=by
 unfold zeroT at hz;split at hz
 ·rename_i i hi;split at hz
  ·rename_i v hv;have:=jgf hz lk env p;refine⟨?_,this.2⟩;simp[zeroValue,typeInfo,hi,hv,this.1]
  ·cases hz
 ·cases hz
theorem jlb{ks:AKey}{k:AV}:∀{es:List (AV×AV)} {i j:Nat} {v:AV},findA ks k es i=some (some (j,v))->i<=j/\∃e,es[j-i]? =some e/\e.2=v
 |[],i,j,v,h=>by cases h
 |e::es,i,j,v,h=>by
  unfold findA at h;split at h
  ·cases h;exact⟨Nat.le_refl _,e,by simp,rfl⟩
  ·obtain⟨h1,e',h2,h3⟩:=jlb h;refine⟨by omega,e',?_,h3⟩;rw[show j-i=(j-(i+1))+1 from by omega];simpa using h2
  ·cases h
theorem jlc(R:Rel C keep env h w){t kt e:TypeId}{ks:AKey}{z:AV}(ht:C.P.underlying t=some (.map kt e))(hk:keyT C.P kt=some ks)(hz:zeroT C.P e=some z){comma:Bool}{m k v:AV}
  (hv:lookA h ks z comma m k=some v):(Instr.lookup t (m.val C.lk env) (k.val C.lk env) comma).run C.P w=.ok (v.val C.lk env) w/\v.bel h.ok:=by
 have zr:=jla (w:=w) (env:=env) C.lk h.ok hz;unfold lookA at hv;split at hv
 ·split at hv
  ·rename_i he;cases hv;have q1:=jex (P:=C.P) (w:=w) (env:=env) C.lk true hk he;have q2:=jhl (P:=C.P) (w:=w) (env:=env) C.lk hk (k:=k) (es:=[]) (ents:=[]) (r:=none) rfl rfl;refine⟨?_,?_⟩
   ·simp only[Instr.lookup,AV.val,Sem.run_bind,run_underlying ht,Result.andThen_ok,Sem.run_pure,Array.isEmpty_empty,q1,q2,found,Option.map_none,zr.1];cases comma<;>simp[giveA,AV.val,AV.vals]
   ·cases comma
    ·exact zr.2
    ·exact⟨zr.2,trivial,trivial⟩
  ·cases hv
 ·rename_i i;split at hv
  ·rename_i es hi;split at hv
   ·rename_i he;simp only[Option.map_eq_some_iff]at hv;obtain⟨r,hr,rfl⟩:=hv;obtain⟨ents,clock,h1,h2⟩:=R.blk i _ hi;have q1:=jex (P:=C.P) (w:=w) (env:=env) C.lk ents.isEmpty hk he;have q2:=jhl (P:=C.P) (w:=w) (env:=env) C.lk hk h2 hr;refine⟨?_,?_⟩
    ·simp only[Instr.lookup,AV.val,Sem.run_bind,run_underlying ht,Result.andThen_ok,Sem.run_pure,jdz h1,q1,q2];cases r with
     |none=>simp only[found,Option.map_none,Sem.run_bind,zr.1,Result.andThen_ok,Sem.run_pure];cases comma<;>simp[giveA,AV.val,AV.vals]
     |some p=>obtain⟨j,v⟩:=p;simp only[found,Option.map_some,Sem.run_pure,Result.andThen_ok];cases comma<;>simp[giveA,AV.val,AV.vals]
    ·have:∀(v:AV),v.bel h.ok->(giveA z comma (some (0,v))).bel h.ok:=by
      intro v hb;cases comma
      ·exact hb
      ·exact⟨hb,trivial,trivial⟩
     cases r with
     |none=>
      cases comma
      ·exact zr.2
      ·exact⟨zr.2,trivial,trivial⟩
     |some p=>
      obtain⟨j,v⟩:=p;obtain⟨_,e',he',rfl⟩:=jlb hr;have hb:=(R.bel i _ hi e' (List.mem_of_getElem? he')).2;cases comma
      ·exact hb
      ·exact⟨hb,trivial,trivial⟩
   ·cases hv
  ·cases hv
 ·cases hv
theorem jfI(lk:Nat->FuncId)(n:Nat){a b:AV}(h:sameAtom a b=true):Instr.sameBits n (a.val lk env) (b.val lk env)=true:=by
 unfold sameAtom at h;split at h
 ·simp only[AV.val];unfold Instr.sameBits;exact h
 ·simp only[AV.val];unfold Instr.sameBits;exact h
 ·cases h
theorem jld(lk:Nat->FuncId){a b:AV}(h:sameKey a b=true):Instr.sameBits 10000 (a.val lk env) (b.val lk env)=true:=by
 unfold sameKey at h;split at h
 ·rename_i xs ys;simp only[Bool.and_eq_true,beq_iff_eq,List.all_eq_true]at h;simp only[AV.val,jbn];show Instr.sameBits (9999+1) _ _=true;unfold Instr.sameBits;simp only[List.size_toArray,List.length_map,h.1,beq_self_eq_true,Bool.true_and,List.all_eq_true];intro p hp;rw[List.zip_map]at hp;obtain⟨q,hq,rfl⟩:=List.mem_map.1 hp;exact jfI lk 9999 (h.2 q hq)
 ·exact jfI lk 10000 h
theorem jgW(R:Rel C keep env h w){t kt e:TypeId}{ks:AKey}(ht:C.P.underlying t=some (.map kt e))(hk:keyT C.P kt=some ks){m k v:AV}(hbk:k.bel h.ok)(hbv:v.bel h.ok){h':Heap}
  (hv:jcl h ks m k v=some h'):∃w',(Instr.mapUpdate t (m.val C.lk env) (k.val C.lk env) (v.val C.lk env)).run C.P w=.ok () w'/\Rel C keep env h' w'/\KeepW keep w w'/\HLe h h':=by
 unfold jcl at hv;split at hv
 ·rename_i i;split at hv
  ·rename_i es hi;split at hv
   ·rename_i he;simp only[Option.map_eq_some_iff]at hv;obtain⟨es',hs,rfl⟩:=hv;obtain⟨ents,clock,h1,h2⟩:=R.blk i _ hi;have hlt:=R.lt i _ hi;have q1:=jex (P:=C.P) (w:=w) (env:=env) C.lk false hk he
    -- the map turns
    have turn:∀(ents':Array MapEntry) (clock':Nat),Held C.lk env ents'.toList es'->(∀p∈es',p.1.bel h.ok/\p.2.bel h.ok)->
      Rel C keep env (h.put i (.map es')) {w with heap:=w.heap.setIfInBounds (env i).blk (.map ents' clock')}/\KeepW keep w {w with heap:=w.heap.setIfInBounds (env i).blk (.map ents' clock')}:=by
     intro ents' clock' hh hb;refine R.write hi rfl rfl rfl rfl (by simp) (fun r hr=>?_) hb ⟨ents',clock',?_,hh⟩
     ·show(w.heap.setIfInBounds (env i).blk _)[r]? =_;rw[Array.getElem?_setIfInBounds,if_neg (Ne.symm hr)]
     ·show(w.heap.setIfInBounds (env i).blk _)[(env i).blk]? =_;rw[Array.getElem?_setIfInBounds,if_pos rfl,if_pos hlt]
    unfold setA at hs;split at hs
    ·rename_i hf;cases hs;have q2:=jhl (P:=C.P) (w:=w) (env:=env) C.lk hk h2 hf;have T:=turn (ents.push {key:=k.val C.lk env,val:=v.val C.lk env,born:=clock}) (clock+1) (by
      have h2':ents.toList.map (fun x=>(x.key,x.val))=es.map fun p=>(p.1.val C.lk env,p.2.val C.lk env):=h2;simp[Held,h2']) (fun p hp=>by
       rcases List.mem_append.1 hp with hp|hp
       ·exact R.bel i _ hi p hp
       ·simp only[List.mem_singleton]at hp;subst hp;exact⟨hbk,hbv⟩)
     refine⟨_,?_,T.1,T.2,jds hi⟩;simp only[Instr.mapUpdate,AV.val,Sem.run_bind,run_underlying ht,Result.andThen_ok,jdz h1,q1,q2,found,Option.map_none,jjf _ h1]
    ·rename_i j v' hf;split at hs
     ·rename_i ej hej;split at hs
      ·rename_i hsame;cases hs;have q2:=jhl (P:=C.P) (w:=w) (env:=env) C.lk hk h2 hf;have h2':ents.toList.map (fun x=>(x.key,x.val))=es.map fun p=>(p.1.val C.lk env,p.2.val C.lk env):=h2;have hkey:∃x,ents[j]? =some x/\x.key=ej.1.val C.lk env:=by
        have:=congrArg (fun l:List (Value×Value)=>l[j]?) h2';simp only[List.getElem?_map,hej,Option.map_some]at this;cases hx:ents[j]? with
        |none=>rw[<-Array.getElem?_toList]at hx;rw[hx]at this;cases this
        |some x=>
         rw[<-Array.getElem?_toList]at hx;rw[hx]at this;simp only[Option.map_some,Option.some.injEq,Prod.mk.injEq]at this;exact⟨x,rfl,this.1⟩
       obtain⟨x,hx,hxk⟩:=hkey;have T:=turn (ents.modify j fun e=>{e with key:=k.val C.lk env,val:=v.val C.lk env}) clock (by
        unfold Held;apply List.ext_getElem?;intro n;have q:=congrArg (fun l:List (Value×Value)=>l[n]?) h2';simp only[List.getElem?_map]at q;simp only[List.getElem?_map,Array.getElem?_toList,Array.getElem?_modify,List.getElem?_set];by_cases e:j=n
        ·subst e;have hl:j<es.length:=(List.getElem?_eq_some_iff.1 hej).1;simp[hx,hl]
        ·simp only[if_neg e];simpa using q) (fun p hp=>by
         rcases List.mem_or_eq_of_mem_set hp with hp|rfl
         ·exact R.bel i _ hi p hp
         ·exact⟨hbk,hbv⟩)
       refine⟨_,?_,T.1,T.2,jds hi⟩;have hst:(Instr.keyThatStays (((ents[j]?).map (·.key)).getD (k.val C.lk env)) (k.val C.lk env)).run C.P w=.ok (k.val C.lk env) w:=by
        rw[hx];simp only[Option.map_some,Option.getD_some,hxk,Instr.keyThatStays,jld C.lk hsame,if_true,Sem.run_pure]
       simp only[Instr.mapUpdate,AV.val,Sem.run_bind,run_underlying ht,Result.andThen_ok,jdz h1,q1,q2,found,Option.map_some,hst,jjf _ h1]
      ·cases hs
     ·cases hs
    ·cases hs
   ·cases hv
  ·cases hv
 ·cases hv
theorem jjS(R:Rel C keep env h w){t kt e:TypeId}(_ht:C.P.underlying t=some (.map kt e)){nid:Option Nat}(hr:h.room nid=true):
  (Instr.makeMap t none).run C.P w=.ok (.map (some w.heap.size)) (w.alloc (.map #[] 0))/\
  Rel C keep (updE env (h.nid nid) ⟨w.heap.size,0,0⟩) (h.new nid (.map [])) (w.alloc (.map #[] 0))/\KeepW keep w (w.alloc (.map #[] 0))/\Ext h env (updE env (h.nid nid) ⟨w.heap.size,0,0⟩):=by
 have A:=R.alloc hr (b:=.map []) ⟨w.heap.size,0,0⟩ rfl (.map #[] 0) (fun v hv=>by cases hv)
  ⟨#[],0,by rw[jbl,if_pos rfl],rfl⟩
 exact⟨by simp[Instr.makeMap],A.1,A.2,jbY (jew hr) env _⟩
theorem jiU(R:Rel C keep env h w){t e:TypeId}{d:ChanDir}(ht:C.P.underlying t=some (.chan d e)){i:TypeInfo}(hi:C.P.info? e=some i){k:IntKind}{nid:Option Nat}(hr:h.room nid=true):
  (Instr.makeChan t (.int k 0)).run C.P w=.ok (.chan (some w.heap.size)) (w.alloc (.chan 0 #[] false 0 0 false))/\
  Rel C keep (updE env (h.nid nid) ⟨w.heap.size,0,0⟩) (h.new nid .chan) (w.alloc (.chan 0 #[] false 0 0 false))/\KeepW keep w (w.alloc (.chan 0 #[] false 0 0 false))/\Ext h env (updE env (h.nid nid) ⟨w.heap.size,0,0⟩):=by
 have A:=R.alloc hr (b:=.chan) ⟨w.heap.size,0,0⟩ rfl (.chan 0 #[] false 0 0 false) trivial
  (by show(w.alloc _).heap[w.heap.size]? =_;rw[jbl,if_pos rfl])
 refine⟨?_,A.1,A.2,jbY (jew hr) env _⟩;have h2:(Go.underlying t).run C.P w=.ok (.chan d e) w:=run_underlying ht w;have h3:(typeInfo e).run C.P w=.ok i w:=by simp[typeInfo,hi]
 have h1:(asInt (.int k 0)).run C.P w=.ok 0 w:=by simp[asInt,asIntOf]
 have h4:¬((0:Int)<0\/(0:Int)>IntKind.i64.max\/(i.bytes:Int)*0>2^48-112):=by
  have:(0:Int)<=IntKind.i64.max:=by decide
  have h0:(0:Int)<=2^48-112:=by decide
  omega
 simp only[Instr.makeChan,Sem.run_bind,h1,h2,h3,Result.andThen_ok];simp[run_newObj_alloc]
end
theorem jfJ{P:Program}(w:World){t e:TypeId}(hu:P.underlying t=some (.slice e))(b:Option Addr)(n c:Nat):(Op.equal t (.slice b n c) (.slice none 0 0)).run P w=.ok b.isNone w:=by
 have key:∀d,(Op.equalIn (d+1) t (.slice b n c) (.slice none 0 0)).run P w=.ok b.isNone w:=by
  intro d;unfold Op.equalIn;rw[Sem.run_bind,run_underlying hu,Result.andThen_ok];cases b<;>rfl
 exact key 9999
theorem je2{P:Program}(w:World){t e:TypeId}(hu:P.underlying t=some (.pointer e))(b:Option Addr):(Op.equal t (.pointer b) (.pointer none)).run P w=.ok b.isNone w:=by
 have key:∀d,(Op.equalIn (d+1) t (.pointer b) (.pointer none)).run P w=.ok b.isNone w:=by
  intro d;unfold Op.equalIn;rw[Sem.run_bind,run_underlying hu,Result.andThen_ok];cases b<;>rfl
 exact key 9999
section
variable {C : Ctx} {keep : Keep} {env : Env} {h : Heap} {w : World}
theorem jc3{α β:Type}(f:α->β)(a:Array α):a.map f=(a.toList.map f).toArray:=by cases a;simp
theorem jnG{b:Builtin}{args:List AOpd}{argTypes:Array TypeId}{aop:AOp}{ev:AOpd->AV}{v:AV}{ty:TypeId}{consts:Array Bool}
  (hl:ja7 C.P b args argTypes=some aop) (hb:∀a∈args.map ev,a.bel h.ok) (hc:∀v,ev (.const v)=v) (hv:pureA aop ev h=some v):
  (builtin b argTypes ty consts ((args.map ev).map (AV.val C.lk env)).toArray).run C.P w=.ok (.value (v.val C.lk env)) w/\v.bel h.ok:=by
 have hty:∀d,(argTypes[0]?).bind C.P.underlying=some d->∃t,argTypes[0]? =some t/\C.P.underlying t=some d:=by
  intro d hd;cases ht:argTypes[0]? with
  |none=>simp[ht]at hd
  |some t=>exact⟨t,rfl,by simpa[ht]using hd⟩
 unfold ja7 at hl;split at hl
 ·-- len
  rename_i x;split at hl
  ·rename_i e hd;obtain⟨t,ht,hu⟩:=hty _ hd;cases hl;simp only[pureA]at hv;split at hv
   ·rename_i i o n c hx;cases hv;simp[builtin,Builtin.len_,ht,run_underlying hu,hx,AV.val,goInt,AV.bel]
   ·rename_i hx;cases hv;simp[builtin,Builtin.len_,ht,run_underlying hu,hx,AV.val,goInt,AV.bel]
   ·cases hv
  ·rename_i n e hd;obtain⟨t,ht,hu⟩:=hty _ hd;cases hl;simp only[pureA,hc,Option.some.injEq]at hv;subst hv;simp[builtin,Builtin.len_,ht,run_underlying hu,AV.val,goInt,AV.bel]
  ·cases hl
 ·-- cap
  rename_i x;split at hl
  ·rename_i e hd;obtain⟨t,ht,hu⟩:=hty _ hd;cases hl;simp only[pureA]at hv;split at hv
   ·rename_i i o n c hx;cases hv;simp[builtin,Builtin.cap_,ht,run_underlying hu,hx,AV.val,goInt,AV.bel,Cap.at]
   ·rename_i hx;cases hv;simp[builtin,Builtin.cap_,ht,run_underlying hu,hx,AV.val,goInt,AV.bel]
   ·cases hv
  ·cases hl
 ·-- append
  repeat' split at hl
  all_goals first
   |(cases hl;done)
   |(cases hl;simp[pureA]at hv)
 ·-- copy
  split at hl
  ·simp only[Option.map_eq_some_iff]at hl;obtain⟨n,_,rfl⟩:=hl;simp[pureA]at hv
  ·cases hl
 ·cases hl;simp only[pureA]at hv;obtain⟨h1,k,m,rfl⟩:=jrQ (P:=C.P) (env:=env) (w:=w) C.lk argTypes ty hv;exact⟨by simp only[builtin,Sem.run_bind,h1,Result.andThen_ok,Sem.run_pure],trivial⟩
 ·cases hl;simp only[pureA]at hv;obtain⟨h1,k,m,rfl⟩:=jrR (P:=C.P) (env:=env) (w:=w) C.lk argTypes ty hv;exact⟨by simp only[builtin,Sem.run_bind,h1,Result.andThen_ok,Sem.run_pure],trivial⟩
 ·cases hl
theorem jox(R:Rel C keep env h w){ρ:Operand->Value}{ev:AOpd->AV}(hρ:∀x ax,lowerOpd C.inv x=some ax->ρ x=(ev ax).val C.lk env/\(ev ax).bel h.ok)
  (hc:∀v,ev (.const v)=v) {o:Oper} {aop:AOp} (hl:lowerOp C.P C.inv o.op=some aop) {v:AV} (hv:pureA aop ev h=some v):jpR C env h w ρ o v:=by
 unfold jpR;cases hop:o.op with
 |move x=>
  rw[hop]at hl;simp only[lowerOp,Option.map_eq_some_iff]at hl;obtain⟨a,ha,rfl⟩:=hl;cases hv;simp[execOp,hop,(hρ x a ha).1,(hρ x a ha).2]
 |assign x=>
  rw[hop]at hl;simp only[lowerOp,Option.map_eq_some_iff]at hl;obtain⟨a,ha,rfl⟩:=hl;cases hv;simp[execOp,hop,(hρ x a ha).1,(hρ x a ha).2]
 | pick c a b =>
  rw[hop]at hl;simp only[lowerOp]at hl;split at hl
  ·rename_i c' a' b' h1 h2 h3;cases hl;simp only[pureA]at hv;split at hv
   ·rename_i t ht;cases hv;have e1:=(hρ c c' h1).1;rw[ht]at e1;cases t<;>simp[execOp,hop,e1,AV.val,asBool,(hρ a a' h2).1,(hρ b b' h3).1,(hρ a a' h2).2,(hρ b b' h3).2]
   ·cases hv
  ·cases hl
 |build t parts=>
  rw[hop]at hl;obtain⟨z,ps,rfl,hb⟩:=jhJ (w:=w) hρ (show jbF C.P C.inv t parts=some aop from hl);simp only[pureA,Option.map_eq_some_iff]at hv;obtain⟨out,hout,rfl⟩:=hv;have:=hb out hout;exact⟨by simp only[execOp,hop,Sem.run_bind,this.1,Result.andThen_ok,Sem.run_pure],this.2⟩
 |load t a=>
  rw[hop]at hl;simp only[lowerOp]at hl;split at hl
  ·rename_i a' g n h1 h2 h3;cases hl;simp only[pureA]at hv;have:=jje R h2 h3 hv;exact⟨by simp only[execOp,hop,Sem.run_bind,(hρ a a' h1).1,this.1,Result.andThen_ok,Sem.run_pure],this.2⟩
  ·cases hl
 | nilCheck x =>
  rw[hop]at hl;simp only[lowerOp,Option.map_eq_some_iff]at hl;obtain⟨a,ha,rfl⟩:=hl;simp only[pureA]at hv;have hb:=(hρ x a ha).2;split at hv<;>first
   |(cases hv;done)
   |(rename_i e;cases hv;rw[e]at hb;refine⟨?_,hb⟩;simp[execOp,hop,(hρ x a ha).1,e,AV.val])
 | binOp op xt x y yt =>
  rw[hop]at hl;simp only[lowerOp]at hl;split at hl
  ·rename_i x' y' h1 h2;have plain:aop=.bin op x' y'->(execOp ρ o).run C.P w=.ok (.value (v.val C.lk env)) w/\v.bel h.ok:=by
    rintro rfl;simp only[pureA]at hv;exact⟨by simp only[execOp,hop,Sem.run_bind,(hρ x x' h1).1,(hρ y y' h2).1,jpL op xt x y hv C.lk,jty op xt hv C.lk,Result.andThen_ok,Sem.run_pure],jrS hv⟩
   have bools:∀neg,C.P.underlying xt=some .bool->op=(if neg then .neq else .eql)->aop=.eqb neg x' y'->(execOp ρ o).run C.P w=.ok (.value (v.val C.lk env)) w/\v.bel h.ok:=by
    rintro neg hu hneg rfl;simp only[pureA]at hv;split at hv
    ·rename_i a b ea eb;cases hv;refine⟨?_,trivial⟩;have q:=run_equal_bool (P:=C.P) w xt a b hu;have e1:=(hρ x x' h1).1;have e2:=(hρ y y' h2).1;rw[ea]at e1;rw[eb]at e2;cases neg
     ·simp only[Bool.false_eq_true,if_false]at hneg;subst hneg;simp[execOp,hop,e1,e2,AV.val,eqGuard,binOp,q]
     ·simp only[if_true]at hneg;subst hneg;simp[execOp,hop,e1,e2,AV.val,eqGuard,binOp,q]
    ·cases hv
   have nils:∀neg e,C.P.underlying xt=some (.slice e)->op=(if neg then .neq else .eql)->y'=.const .nilslice->aop=.eqn neg x'->(execOp ρ o).run C.P w=.ok (.value (v.val C.lk env)) w/\v.bel h.ok:=by
    rintro neg e hu hneg rfl rfl;simp only[pureA]at hv;have e1:=(hρ x x' h1).1;have e2:=(hρ y _ h2).1;rw[hc]at e2;simp only[AV.val]at e2;split at hv
    ·rename_i i off n cp ea;cases hv;rw[ea]at e1;simp only[AV.val]at e1;have q:=jfJ (P:=C.P) w hu (some ⟨(env i).blk,(env i).sh+off,none⟩) n (cp.at (env i));refine⟨?_,trivial⟩;cases neg
     ·simp only[Bool.false_eq_true,if_false]at hneg;subst hneg;simp[execOp,hop,e1,e2,AV.val,eqGuard,binOp,q]
     ·simp only[if_true]at hneg;subst hneg;simp[execOp,hop,e1,e2,AV.val,eqGuard,binOp,q]
    ·rename_i ea;cases hv;rw[ea]at e1;simp only[AV.val]at e1;have q:=jfJ (P:=C.P) w hu none 0 0;refine⟨?_,trivial⟩;cases neg
     ·simp only[Bool.false_eq_true,if_false]at hneg;subst hneg;simp[execOp,hop,e1,e2,AV.val,eqGuard,binOp,q]
     ·simp only[if_true]at hneg;subst hneg;simp[execOp,hop,e1,e2,AV.val,eqGuard,binOp,q]
    ·cases hv
   have nilps:∀neg e,C.P.underlying xt=some (.pointer e)->op=(if neg then .neq else .eql)->y'=.const .nilptr->aop=.eqp neg x'->(execOp ρ o).run C.P w=.ok (.value (v.val C.lk env)) w/\v.bel h.ok:=by
    rintro neg e hu hneg rfl rfl;simp only[pureA]at hv;have e1:=(hρ x x' h1).1;have e2:=(hρ y _ h2).1;rw[hc]at e2;simp only[AV.val]at e2;split at hv
    ·rename_i i off ea;cases hv;rw[ea]at e1;simp only[AV.val]at e1;have q:=je2 (P:=C.P) w hu (some ⟨(env i).blk,(env i).sh+off,none⟩);refine⟨?_,trivial⟩;cases neg
     ·simp only[Bool.false_eq_true,if_false]at hneg;subst hneg;simp[execOp,hop,e1,e2,AV.val,eqGuard,binOp,q]
     ·simp only[if_true]at hneg;subst hneg;simp[execOp,hop,e1,e2,AV.val,eqGuard,binOp,q]
    ·rename_i ea;cases hv;rw[ea]at e1;simp only[AV.val]at e1;have q:=je2 (P:=C.P) w hu none;refine⟨?_,trivial⟩;cases neg
     ·simp only[Bool.false_eq_true,if_false]at hneg;subst hneg;simp[execOp,hop,e1,e2,AV.val,eqGuard,binOp,q]
     ·simp only[if_true]at hneg;subst hneg;simp[execOp,hop,e1,e2,AV.val,eqGuard,binOp,q]
    ·cases hv
   have structs:∀neg fs ls,C.P.underlying xt=some (.struct fs)->(C.P.stoodInHeld xt=false/\C.P.eqGuardType C.P.depth xt=false)->leavesOf2 C.P fs.toList=some ls->
     op=(if neg then .neq else .eql)->aop=.eqs neg ls x' y'->(execOp ρ o).run C.P w=.ok (.value (v.val C.lk env)) w/\v.bel h.ok:=by
    rintro neg fs ls hu ⟨hst,hgt⟩ hls hneg rfl;simp only[pureA]at hv;split at hv
    ·rename_i xs ys ea eb;simp only[Option.map_eq_some_iff]at hv;obtain⟨r,hr,rfl⟩:=hv;have e1:=(hρ x x' h1).1;have e2:=(hρ y y' h2).1;rw[ea]at e1;rw[eb]at e2;simp only[AV.val,jbn]at e1 e2;have hfo:C.P.fieldsOf xt=fs:=by simp[Program.fieldsOf,hu]
     have q:=run_equalIn_struct (P:=C.P) w 9999 xt (xs.map (AV.val C.lk env)).toArray (ys.map (AV.val C.lk env)).toArray (by rw[hfo];exact hu) hst;rw[hfo,jcR C.lk 9997 xs ys fs.toList ls r hls hr]at q;have g:=fun op'=>run_eqGuard_agg (P:=C.P) w op' xt x y (xs.map (AV.val C.lk env)).toArray (ys.map (AV.val C.lk env)).toArray hgt;refine⟨?_,trivial⟩;cases neg
     ·simp only[Bool.false_eq_true,if_false]at hneg;subst hneg;simp only[execOp,hop,e1,e2,Sem.run_bind,g,Result.andThen_ok,run_eql_struct,q,Sem.run_pure];simp[AV.val]
     ·simp only[if_true]at hneg;subst hneg;simp only[execOp,hop,e1,e2,Sem.run_bind,g,Result.andThen_ok,run_neq_struct,q,Sem.run_pure];simp[AV.val]
    ·cases hv
   split at hl
   ·cases hl;exact plain rfl
   ·cases hl;exact plain rfl
   ·rename_i hu;cases hl;exact bools false hu rfl rfl
   ·rename_i hu;cases hl;exact bools true hu rfl rfl
   ·rename_i fs hu;split at hl
    ·rename_i hcond;simp only[Option.map_eq_some_iff]at hl;obtain⟨ls,hls,rfl⟩:=hl;exact structs false fs ls hu hcond hls rfl rfl
    ·cases hl
   ·rename_i fs hu;split at hl
    ·rename_i hcond;simp only[Option.map_eq_some_iff]at hl;obtain⟨ls,hls,rfl⟩:=hl;exact structs true fs ls hu hcond hls rfl rfl
    ·cases hl
   ·rename_i e hu;split at hl
    ·cases hl;exact nils false e hu rfl rfl rfl
    ·cases hl
   ·rename_i e hu;split at hl
    ·cases hl;exact nils true e hu rfl rfl rfl
    ·cases hl
   ·rename_i e hu;split at hl
    ·cases hl;exact nilps false e hu rfl rfl rfl
    ·cases hl
   ·rename_i e hu;split at hl
    ·cases hl;exact nilps true e hu rfl rfl rfl
    ·cases hl
   ·cases hl
   ·cases hl
   ·cases hl;exact plain rfl
   ·cases hl
  ·cases hl
 |unOp op xt x=>
  rw[hop]at hl;simp only[lowerOp]at hl;split at hl
  ·rename_i x' k h1 h2;cases hl;simp only[pureA]at hv;exact⟨by simp only[execOp,hop,Sem.run_bind,(hρ x x' h1).1,jtc op hv C.lk,Result.andThen_ok,Sem.run_pure],jpO hv⟩
  ·rename_i x' h1 h2;cases hl;simp only[pureA]at hv;exact⟨by simp only[execOp,hop,Sem.run_bind,(hρ x x' h1).1,jtc op hv C.lk,Result.andThen_ok,Sem.run_pure],jpO hv⟩
  ·cases hl
 | convert s d x =>
  rw[hop]at hl;simp only[lowerOp]at hl;split at hl
  ·rename_i x' k1 k h1 h2 h3;cases hl;simp only[pureA]at hv;split at hv
   ·rename_i k0 n e;cases hv;refine⟨?_,trivial⟩;have e1:=(hρ x x' h1).1;rw[e]at e1;simp[execOp,hop,e1,AV.val,convert,run_underlying h2,run_underlying h3,Conv.intToInt]
   ·cases hv
  ·cases hl
 | makeFunc fn first captured =>
  rw[hop]at hl;cases fn with
  | func f =>
   simp only[lowerOp]at hl;split at hl
   ·rename_i g a c h1 h2 h3;cases hl;cases hv;have q1:=jba hρ h2;have q2:=jba hρ h3;have e1:first.map ρ=((a.map ev).map (AV.val C.lk env)).toArray:=by rw[<-q1.1,<-jc3]
    have e2:captured.map ρ=((c.map ev).map (AV.val C.lk env)).toArray:=by rw[<-q2.1,<-jc3]
    refine⟨?_,(ja9 _ _).2 q1.2,(ja9 _ _).2 q2.2⟩;simp only[execOp,hop,Instr.makeFunc,Sem.run_bind,Sem.run_pure,Result.andThen_ok,AV.val,jbn,C.hinv _ _ h1,e1,e2]
   ·cases hl
  |_=>simp[lowerOp]at hl
 | slice t x lo hi mx =>
  rw[hop]at hl;simp only[lowerOp]at hl;split at hl
  ·rename_i e x' lo' hi' mx' h1 h2 h3 h4 h5;split at hl
   ·rename_i n hn;split at hl
    ·rename_i hpos;cases hl;simp only[pureA]at hv;have q:=jmp R h1 hn hpos (hρ x x' h2).2 hv;refine⟨?_,q.2⟩;simp only[execOp,hop,Sem.run_bind,(hρ x x' h2).1,jdZ hρ h3,jdZ hρ h4,jdZ hρ h5,q.1,Result.andThen_ok,Sem.run_pure]
    ·cases hl
   ·cases hl
  ·cases hl
 | fieldAddr s x f =>
  rw[hop]at hl;simp only[lowerOp]at hl;split at hl
  ·rename_i fields x' h1 h2;split at hl
   ·rename_i fd hfd;split at hl
    ·rename_i n hn;split at hl
     ·cases hl
     ·rename_i hne;cases hl;simp only[pureA]at hv;split at hv
      ·rename_i i o e;cases hv;have e1:=hρ x x' h2;rw[e]at e1;refine⟨?_,e1.2⟩;simp[execOp,hop,e1.1,AV.val,Instr.fieldAt,run_underlying h1,hfd,Instr.sureAddr,fieldPlace,ja2 hn,hne,jdt,Nat.add_assoc]
      ·cases hv
    ·cases hl
   ·cases hl
  ·cases hl
 | field t x f =>
  rw[hop]at hl;simp only[lowerOp]at hl;split at hl
  ·rename_i fields x' h1 h2;split at hl
   ·rename_i fd hfd;split at hl
    ·rename_i g n h3 h4;cases hl;simp only[pureA]at hv;split at hv
     ·rename_i vs e;have e1:=hρ x x' h2;rw[e]at e1;have q:=jhH (w:=w) (env:=env) h3 h4 hv ((ja9 _ _).1 e1.2);refine⟨?_,q.2⟩;simp only[AV.val,jbn]at e1;simp[execOp,hop,e1.1,Instr.field,run_underlying h1,hfd,asAgg,q.1]
     ·cases hv
    ·cases hl
   ·cases hl
  ·cases hl
 | indexAddr t x i =>
  rw[hop]at hl;simp only[lowerOp]at hl;split at hl
  ·rename_i e x' i' h1 h2 h3;simp only[Option.map_eq_some_iff]at hl;obtain⟨n,hn,rfl⟩:=hl;simp only[pureA]at hv;split at hv
   ·rename_i b o m c k j ex ei;split at hv
    ·rename_i hcond;cases hv;have e1:=hρ x x' h2;have e2:=(hρ i i' h3).1;rw[ex]at e1;rw[ei]at e2;refine⟨?_,e1.2⟩;simp[execOp,hop,e1.1,e2,AV.val,Instr.indexAt,asIntOf,run_underlying h1,hcond,ja2 hn,jdt,Nat.add_assoc]
    ·cases hv
   ·cases hv
  ·rename_i len e x' i' h1 h2 h3;simp only[Option.map_eq_some_iff]at hl;obtain⟨n,hn,rfl⟩:=hl;simp only[pureA]at hv;split at hv
   ·rename_i b o k j ex ei;split at hv
    ·rename_i hcond;cases hv;have e1:=hρ x x' h2;have e2:=(hρ i i' h3).1;rw[ex]at e1;rw[ei]at e2;refine⟨?_,e1.2⟩;simp[execOp,hop,e1.1,e2,AV.val,Instr.indexAt,asIntOf,run_underlying h1,hcond,ja2 hn,jdt,Nat.add_assoc,Instr.sureAddr]
    ·cases hv
   ·cases hv
  ·cases hl
 | index t x i =>
  rw[hop]at hl;simp only[lowerOp]at hl;split at hl
  ·rename_i len e x' i' h1 h2 h3;split at hl
   ·rename_i g n h4 h5;cases hl;simp only[pureA]at hv;split at hv
    ·rename_i vs k j ex ei;split at hv
     ·rename_i hcond;have e1:=hρ x x' h2;have e2:=(hρ i i' h3).1;rw[ex]at e1;rw[ei]at e2;have q:=jhH (w:=w) (env:=env) h4 h5 hv ((ja9 _ _).1 e1.2);refine⟨?_,q.2⟩;simp only[AV.val,jbn]at e1;simp[execOp,hop,e1.1,e2,AV.val,Instr.index,asIntOf,run_underlying h1,hcond,ja2 h5,q.1]
     ·cases hv
    ·cases hv
   ·cases hl
  ·rename_i x' i' h1 h2 h3;cases hl;simp only[pureA]at hv;split at hv
   ·rename_i bs k j ex ei;split at hv
    ·rename_i h0;split at hv
     ·rename_i b hb;split at hv
      ·rename_i hlt;cases hv;have e1:=(hρ x x' h2).1;have e2:=(hρ i i' h3).1;rw[ex]at e1;rw[ei]at e2;simp only[AV.val]at e1 e2;have hsz:j.toNat<bs.length:=(List.getElem?_eq_some_iff.1 hb).1;have hget:bs[j.toNat]=b:=(List.getElem?_eq_some_iff.1 hb).2;have hs:(⟨(bs.map UInt8.ofNat).toArray⟩:ByteArray).size=bs.length:=by simp[ByteArray.size]
       have q:=run_index_string (P:=C.P) (w:=w) t ⟨(bs.map UInt8.ofNat).toArray⟩ k j h1;rw[dif_pos ⟨h0,by rw[hs];omega⟩]at q;have hv8:((⟨(bs.map UInt8.ofNat).toArray⟩:ByteArray)[j.toNat]'(by rw[hs];exact hsz)).toNat=b:=by
        show(((bs.map UInt8.ofNat).toArray)[j.toNat]'(by simp;exact hsz)).toNat=b;simp only[List.getElem_toArray,List.getElem_map,hget];simp[UInt8.toNat_ofNat'];omega
       refine⟨?_,trivial⟩;simp only[execOp,hop,e1,e2,Sem.run_bind,q,Result.andThen_ok,Sem.run_pure,AV.val,hv8]
      ·cases hv
     ·cases hv
    ·cases hv
   ·cases hv
  ·cases hl
 |extract x i=>
  rw[hop]at hl;simp only[lowerOp,Option.map_eq_some_iff]at hl;obtain⟨a,ha,rfl⟩:=hl;simp only[pureA]at hv;split at hv
  ·rename_i vs e;have e1:=hρ x a ha;rw[e]at e1;refine⟨?_,jtz e1.2 hv⟩;simp only[AV.val,jbn]at e1;simp[execOp,hop,e1.1,Instr.extract,hv]
  ·cases hv
 | call c =>
  rw[hop]at hl;have hl':jbc C.P C.inv c=some aop:=hl;unfold jbc at hl';split at hl'
  ·rename_i args hargs;have q:=jba hρ hargs;have e1:c.args.map ρ=((args.map ev).map (AV.val C.lk env)).toArray:=by rw[<-q.1,<-jc3]
   split at hl'
   ·simp only[Option.map_eq_some_iff]at hl';obtain⟨f,_,rfl⟩:=hl';simp[pureA]at hv
   ·rename_i b hcal;have r:=jnG (env:=env) (w:=w) (ty:=o.type) (consts:=c.args.map fun|.const _=>true|_=>false) hl' q.2 hc hv;refine⟨?_,r.2⟩;simp only[execOp,hop,resolve,hcal,Sem.run_bind,Sem.run_pure,Result.andThen_ok,invoke,e1];exact r.1
   ·cases hl'
  ·cases hl'
 |alloc e=>
  rw[hop]at hl;simp only[lowerOp,Option.map_eq_some_iff]at hl;obtain⟨z,_,rfl⟩:=hl;simp[pureA]at hv
 |box e x=>
  rw[hop]at hl;simp only[lowerOp,Option.map_eq_some_iff]at hl;obtain⟨z,_,rfl⟩:=hl;simp[pureA]at hv
 | buildSlice t n ps =>
  rw[hop]at hl;have hl':jaL C.P C.inv t n ps=some aop:=hl;unfold jaL at hl'
  repeat' split at hl'
  all_goals first
   |(cases hl';done)
   |(simp only[Option.map_eq_some_iff]at hl';obtain⟨_,_,rfl⟩:=hl';simp[pureA]at hv)
 |store t a x=>
  rw[hop]at hl;simp only[lowerOp]at hl;split at hl
  ·cases hl;simp[pureA]at hv
  ·cases hl
 | makeSlice t l c =>
  rw[hop]at hl;simp only[lowerOp]at hl
  repeat' split at hl
  all_goals first
   |(cases hl;done)
   |(cases hl;simp[pureA]at hv)
 | lookup t m k comma =>
  rw[hop]at hl;have hl':lowerMap C.P C.inv (.lookup t m k comma)=some aop:=hl;simp only[lowerMap]at hl';split at hl'
  ·rename_i kt e m' k' h1 h2 h3;split at hl'
   ·rename_i ks z h4 h5;cases hl';simp only[pureA]at hv;have q:=jlc R h1 h4 h5 hv;exact⟨by simp only[execOp,hop,Sem.run_bind,(hρ m m' h2).1,(hρ k k' h3).1,q.1,Result.andThen_ok,Sem.run_pure],q.2⟩
   ·cases hl'
  ·cases hl'
 | makeMap t r =>
  rw[hop]at hl;have hl':lowerMap C.P C.inv (.makeMap t r)=some aop:=hl;cases r<;>simp only[lowerMap]at hl'
  ·split at hl'
   ·cases hl';simp[pureA]at hv
   ·cases hl'
  ·cases hl'
 |mapUpdate t m k x=>
  rw[hop]at hl;have hl':lowerMap C.P C.inv (.mapUpdate t m k x)=some aop:=hl;simp only[lowerMap]at hl';split at hl'
  ·simp only[Option.map_eq_some_iff]at hl';obtain⟨_,_,rfl⟩:=hl';simp[pureA]at hv
  ·cases hl'
 |insert t m k x=>
  rw[hop]at hl;have hl':lowerMap C.P C.inv (.insert t m k x)=some aop:=hl;simp only[lowerMap]at hl';split at hl'
  ·simp only[Option.map_eq_some_iff]at hl';obtain⟨_,_,rfl⟩:=hl';simp[pureA]at hv
  ·cases hl'
 |makeChan t s=>
  rw[hop]at hl;simp only[lowerOp]at hl;split at hl
  ·simp only[Option.map_eq_some_iff]at hl;obtain⟨_,_,rfl⟩:=hl;simp[pureA]at hv
  ·cases hl
 |go c=>
  rw[hop]at hl;simp only[lowerOp]at hl;split at hl
  ·simp only[Option.map_eq_some_iff]at hl;obtain⟨_,_,rfl⟩:=hl;simp[pureA]at hv
  ·cases hl
 |recv t x comma=>
  rw[hop]at hl;simp only[lowerOp]at hl;split at hl
  ·simp only[Option.map_eq_some_iff]at hl;obtain⟨_,_,rfl⟩:=hl;simp[pureA]at hv
  ·cases hl
 |send c x=>
  rw[hop]at hl;simp only[lowerOp]at hl;split at hl
  ·cases hl;simp[pureA]at hv
  ·cases hl
 |_=>rw[hop]at hl;simp[lowerOp]at hl
end
theorem jmr{α:Type}(l cs:List α)(o k:Nat)(h:o+cs.length<=l.length):(l.take o++cs++l.drop (o+cs.length))[k]? =if k<o then l[k]? else if k<o+cs.length then cs[k-o]? else l[k]? :=by
 rw[List.append_assoc,List.getElem?_append,List.length_take,Nat.min_eq_left (by omega)];by_cases h1:k<o
 ·simp[h1]
 ·simp only[h1,if_false];rw[List.getElem?_append];by_cases h2:k<o+cs.length
  ·rw[if_pos (by omega),if_pos h2]
  ·rw[if_neg (by omega),if_neg h2,List.getElem?_drop];congr 1;omega
theorem joy(vs cs:List AV)(o k:Nat)(h:o+cs.length<=vs.length):(splice vs o cs)[k]? =if k<o then vs[k]? else if k<o+cs.length then cs[k-o]? else vs[k]? :=by
 unfold splice;split
 ·rename_i c;simp only[List.length_singleton]at h|-;rw[List.getElem?_set];by_cases h1:k<o
  ·rw[if_neg (by omega),if_pos h1]
  ·rw[if_neg h1];by_cases h2:k<o+1
   ·obtain rfl:k=o:=by omega
    rw[if_pos rfl,if_pos (by omega),if_pos (by omega)];simp
   ·rw[if_neg (by omega),if_neg h2]
 ·exact jmr vs cs o k h
theorem jjT(vs cs:List AV)(o:Nat)(h:o+cs.length<=vs.length):(splice vs o cs).length=vs.length:=by
 unfold splice;split
 ·simp
 ·simp;omega
theorem joz{vs cs:List AV}{o:Nat}{v:AV}(hv:v∈splice vs o cs):v∈vs\/v∈cs:=by
 unfold splice at hv;split at hv
 ·rcases List.mem_or_eq_of_mem_set hv with x|x
  ·exact .inl x
  ·exact .inr (by simp[x])
 ·rw[List.mem_append,List.mem_append]at hv;rcases hv with(x|x)|x
  ·exact .inl (List.mem_of_mem_take x)
  ·exact .inr x
  ·exact .inl (List.mem_of_mem_drop x)
theorem jnH(lk:Nat->FuncId)(env:Env)(v:AV):(v.val lk env).oneCell'=v.one:=by
 cases v<;>rfl
section
variable {C : Ctx} {keep : Keep} {env : Env} {h : Heap} {w : World}
def OpRun(C:Ctx)(keep:Keep)(env:Env)(h:Heap)(w:World)(nid:Option Nat)(run:Result Next)(v:AV)(h':Heap):Prop:=
 ∃env' w' V,run=.ok V w'/\(V=.value (v.val C.lk env')\/(V=.skip/\v=.undef))/\Rel C keep env' h' w'/\KeepW keep w w'/\Ext h env env'/\HGrow h h'/\
  (∀i,i<h.size->nid≠some i->(h'.get i).isSome=(h.get i).isSome)/\v.bel h'.ok
theorem jd0{nid:Option Nat}(hr:h.room nid=true)(b:ABlk)(i:Nat)(hi:i<h.size)(hn:nid≠some i):((h.new nid b).get i).isSome=(h.get i).isSome:=by
 rw[jdr hr,if_neg];intro e;cases nid with
 |none=>simp[Heap.nid]at e;omega
 |some n=>simp[Heap.nid]at e;exact hn (by rw[e])
theorem joA(keep:Keep)(w:World):KeepW keep w w.drew:=⟨rfl,rfl,rfl,Nat.le_refl _,fun _ _=>rfl⟩
theorem jfK(R:Rel C keep env h w){nid:Option Nat}(hr:h.room nid=true)(vs:List AV)(u cap:Nat)(cur:Array Value)(t:TypeId)
  (hcur:∀(k:Nat) (v:AV),vs[k]? =some v->cur[k]? =some (v.val C.lk env)) (hcap:0<u->vs.length<=cap*u/\cap*u<=cur.size) (hb:∀v∈vs,v.bel h.ok):
  Rel C keep (updE env (h.nid nid) ⟨w.heap.size,0,cap⟩) (h.new nid (.cells vs true u)) (w.alloc (.cells cur t))/\KeepW keep w (w.alloc (.cells cur t))/\Ext h env (updE env (h.nid nid) ⟨w.heap.size,0,cap⟩):=by
 have hn:=jew hr;have hx:=jbY (h:=h) hn env ⟨w.heap.size,0,cap⟩;have hok:∀j,h.ok j->(h.new nid (.cells vs true u)).ok j:=fun j hj=>(jc0 hr).2 (.inr hj);have A:=R.alloc hr (b:=.cells vs true u) ⟨w.heap.size,0,cap⟩ rfl (.cells cur t) (fun v hv=>Ae.bel_mono hok v (hb v hv))
  ⟨cur,t,by rw[jbl,if_pos rfl],fun k v hk=>by rw[hx.val (hb v (List.mem_of_getElem? hk)),Nat.zero_add];exact hcur k v hk,fun hu=>by simpa using hcap hu⟩
 exact⟨A.1,A.2,hx⟩
theorem jjU(lk:Nat->FuncId)(env:Env)(vs:List AV)(k:Nat)(v:AV)(hk:vs[k]? =some v):(vs.map (AV.val lk env)).toArray[k]? =some (v.val lk env):=by
 simp[hk]
theorem jhK(R:Rel C keep env h w){nid:Option Nat}(hr:h.room nid=true)(vs:List AV)(hb:∀v∈vs,v.bel h.ok)(t:TypeId):
  OpRun C keep env h w nid (.ok (.value (.pointer (some ⟨w.heap.size,0,none⟩))) (w.alloc (.cells (vs.map (AV.val C.lk env)).toArray t))) (.ptr (h.nid nid) 0) (h.new nid (.cells vs true 0)):=by
 have A:=jfK R hr vs 0 0 (vs.map (AV.val C.lk env)).toArray t (jjU C.lk env vs) (fun x=>by omega) hb;refine⟨_,_,_,rfl,.inl ?_,A.1,A.2.1,A.2.2,jdX hr _,jd0 hr _,?_⟩
 ·simp[AV.val,updE]
 ·exact(jc0 hr).2 (.inl rfl)
theorem jjV(R:Rel C keep env h w){i:Nat}{vs:List AV}{u:Nat}(hi:h.get i=some (.cells vs true u)){o:Nat}{cs:List AV}(hle:o+cs.length<=vs.length)
  (hone:cs.all AV.one=true) (hb:∀v∈cs,v.bel h.ok):
  ∃w',(storeCells ⟨(env i).blk,(env i).sh+o,none⟩ (cs.map (AV.val C.lk env)) 0).run C.P w=.ok () w'/\
   Rel C keep env (h.put i (.cells (splice vs o cs) true u)) w'/\KeepW keep w w':=by
 obtain⟨cur,t,h1,h2,h3⟩:=R.blk i _ hi;by_cases hcs:cs=[]
 ·subst hcs;have hsp:splice vs o []=vs:=by simp[splice]
  rw[hsp];exact⟨w,rfl,R.write hi rfl rfl rfl rfl rfl (fun _ _=>rfl) (R.bel i _ hi) (R.blk i _ hi)⟩
 have hfit:(env i).sh+vs.length<=cur.size:=by
  cases hv:vs.length with
  |zero=>
   have:cs.length≠0:=by simp[hcs]
   omega
  |succ m=>
   have hm:m<vs.length:=by omega
   have:=h2 m vs[m] (List.getElem?_eq_getElem hm);have:=(Array.getElem?_eq_some_iff.1 this).1;omega
 have hst:=run_storeCells_at C.P (env i).blk ((env i).sh+o) t (cs.map (AV.val C.lk env)) 0 cur w h1 (by simp;omega) (by
  intro v hv;obtain⟨a,ha,rfl⟩:=List.mem_map.1 hv;rw[jnH];exact List.all_eq_true.1 hone a ha)
 refine⟨_,hst,?_⟩;refine R.write hi rfl rfl rfl rfl (by simp) (fun r hr=>setRow_other w _ r _ hr) ?_ ?_
 ·intro v hv;rcases joz hv with x|x
  ·exact R.bel i _ hi v x
  ·exact hb v x
 ·refine⟨_,t,setRow_heap w _ cur _ t (0,0) h1,fun k v hk=>?_,fun hu=>?_⟩
  ·rw[joy _ _ _ _ hle]at hk;simp only[List.getElem?_toArray,Nat.add_zero];have hl:(env i).sh+o+(cs.map (AV.val C.lk env)).length<=cur.toList.length:=by simp;omega
   rw[jmr _ _ _ _ hl];simp only[List.length_map];split at hk
   ·rw[if_pos (by omega)];have:=h2 k v hk;simpa using this
   ·split at hk
    ·rw[if_neg (by omega),if_pos (by omega),List.getElem?_map,show(env i).sh+k-((env i).sh+o)=k-o from by omega,hk];rfl
    ·rw[if_neg (by omega),if_neg (by omega)];have:=h2 k v hk;simpa using this
  ·obtain⟨a,b⟩:=h3 hu;rw[jjT _ _ _ hle];refine⟨a,?_⟩;simp only[List.size_toArray,List.length_append,List.length_take,List.length_drop,Array.length_toList,List.length_map,Nat.add_zero];omega
theorem jle(R:Rel C keep env h w){t:TypeId}{n:Nat}(hn:sizeT C.P t=some n){a v:AV}(hbv:v.bel h.ok){h':Heap}(hs:jem h n a v=some h')(nid:Option Nat):
  ∃w',(Instr.storeAt t (a.val C.lk env) (v.val C.lk env)).run C.P w=.ok () w'/\Rel C keep env h' w'/\KeepW keep w w'/\HLe h h':=by
 unfold jem at hs;split at hs
 ·rename_i i o;split at hs
  ·rename_i vs u hi;split at hs
   ·rename_i hc;cases hs;obtain⟨h1,h2,h3⟩:=hc;obtain⟨w',hst,r1,r2⟩:=jjV R hi (o:=o) (cs:=v.cells) (by omega) h3 (jhF hbv);refine⟨w',?_,r1,r2,jds hi⟩;have hcv:=jfE C.lk env v;have hsz:(v.val C.lk env).cells.size=n:=by rw[hcv];simp[h1]
    simp[Instr.storeAt,Instr.sureAddr,AV.val,storeVar,ja2 hn,hsz,hcv,hst,h1]
   ·cases hs
  ·cases hs
 ·cases hs
theorem jcS(R:Rel C keep env h w){sz:Nat}{x:AV}{m:Nat}{cs:List AV}(hx:jaH h sz x=some (m,cs)):
  (Builtin.lenOf (x.val C.lk env)).run C.P w=.ok m w/\(∀v∈cs,v.bel h.ok)/\cs.length=m*sz/\
  ((x=.nilslice/\m=0/\cs=[])\/∃a c,x.val C.lk env=.slice (some a) m c/\∀(j:Nat) (u:Value),(cs.map (AV.val C.lk env))[j]? =some u->w.cell? (a.add j)=some u):=by
 unfold jaH at hx;split at hx
 ·cases hx;exact⟨by simp[AV.val,Builtin.lenOf],by simp,by simp,.inl ⟨rfl,rfl,rfl⟩⟩
 ·rename_i i o n c;split at hx
  ·rename_i vs wr u hi;split at hx
   ·rename_i hle;cases hx;refine⟨by simp[AV.val,Builtin.lenOf],jfi R hi o (m*sz),?_,.inr ⟨_,_,rfl,jk8 R hi o (m*sz)⟩⟩;simp[cut];omega
   ·cases hx
  ·cases hx
 ·cases hx
theorem jcn(R:Rel C keep env h w){sz:Nat}{x:AV}{m:Nat}{cs:List AV}(hx:jaH h sz x=some (m,cs))(k:Nat)(hk:k<=m):
  (Builtin.firstCells sz k (x.val C.lk env)).run C.P w=.ok ((cs.take (k*sz)).map (AV.val C.lk env)).toArray w:=by
 obtain⟨h1,h2,h3,h4⟩:=jcS R hx;rcases h4 with⟨rfl,rfl,rfl⟩|⟨a,c,ha,hc⟩
 ·simp[AV.val,Builtin.firstCells]
 ·rw[ha];have hlen:((cs.take (k*sz)).map (AV.val C.lk env)).length=k*sz:=by
   have:=Nat.mul_le_mul_right sz hk;simp;omega
  have:=run_loadCells_list (P:=C.P) w a ((cs.take (k*sz)).map (AV.val C.lk env)) (fun j u hj=>hc j u (by
   rw[List.getElem?_map]at hj|-;rw[List.getElem?_take]at hj;split at hj
   ·exact hj
   ·cases hj))
  rw[hlen]at this;simp[Builtin.firstCells,this]
end
section
variable {P : Program} {w : World}
def jpS(d:TypeDesc):Bool:=d matches .int _
theorem jpT{d:TypeDesc}(hne:∀k,d≠.int k):jpS d=false:=by
 cases d<;>first|rfl|exact absurd rfl (hne _)
theorem jnI{d:TypeDesc}{b:Bool}(hb:jpS d=b)(K:Bool->Sem Value)(w:World):
  ((do let z<-pure (jpS d);K z):Sem Value).run P w=(K b).run P w:=by
 rw[hb];rfl
def jcc(e:TypeId)(size:Nat)(zeros:Bool)(base:Option Addr)(sLen sCap:Nat)(s x:Value)(n:Nat):Sem Value:=do
 let appended:Sem (Array Value):=
  if !zeros then Builtin.firstCells size n x
  else if n*size=0 then pure #[]
  else do pure (Builtin.zeroCells (<-zeroValue e).cells n)
 let need:=sLen+n
 if need<=sCap then
  let new<-appended
  if let some a:=base then storeCells (a.add (sLen*size)) new.toList
  pure (.slice base need sCap)
 else
  if(need:Int)>IntKind.i64.max/\(zeros\/(<-typeInfo e).bytes=0)then runtimePanic (.error "growslice: len out of range")
  if Builtin.nextslicecap need sCap*(<-typeInfo e).bytes>2^48 then(if zeros then runtimePanic (.error "growslice: len out of range")else do
   if !(<-Builtin.mayShare size sLen n base x)then mark .noRoom
   unsupported (.resourceLimit "append: a slice or a string whose bytes no memory bears"))
  let newCap<-choose (.appendCap need sCap e)
  askRoom (newCap*(<-typeInfo e).bytes)
  let old<-Builtin.firstCells size sLen s
  let new<-appended
  let rest:=Builtin.zeroCells (<-zeroValue e).cells (newCap-need)
  pure (.slice (some (<-newRow e (old++new++rest))) need newCap)
theorem jjW{argTypes:Array TypeId}{t ty e xt:TypeId}{i:TypeInfo}{d:TypeDesc}(h0:argTypes[0]? =some t)(ht:P.underlying t=some (.slice e))(hi:P.info? e=some i)
  (h1:argTypes[1]? =some xt) (hd:P.underlying xt=some d) (hne:∀k,d≠.int k) {x:Value} {m:Nat} (hl:(Builtin.lenOf x).run P w=.ok m w) (base:Option Addr) (n c:Nat):
  (Builtin.append_ argTypes ty #[.slice base n c,x]).run P w=(jcc e i.size false base n c (.slice base n c) x m).run P w:=by
 unfold Builtin.append_;simp only[h0,h1,List.getElem?_toArray,List.getElem?_cons_zero,List.getElem?_cons_succ];rw[Sem.run_bind,run_underlying ht,Result.andThen_ok];simp only;rw[Sem.run_bind,show(sizeOf e).run P w=.ok i.size w from by simp[sizeOf,typeInfo,hi],Result.andThen_ok];rw[Sem.run_bind,run_underlying hd,Result.andThen_ok];refine(jnI (jpT hne) _ w).trans ?_;change (Builtin.lenOf x>>=fun k=>jcc e i.size false base n c (.slice base n c) x k).run P w=_;rw[Sem.run_bind,hl,Result.andThen_ok]
def zlen(e:TypeId)(l:Int)(K:Nat->Sem Value):Sem Value:=do
 if l*(<-typeInfo e).bytes>2^48 then
  let made<-choose (.extern "append.ofMake.carriedOut" 2)
  runtimePanic (.error (if made==1 then "makeslice: len out of range" else "growslice: len out of range"))
 let n<-pure l.toNat
 K n
theorem jhh{argTypes:Array TypeId}{t ty e xt:TypeId}{i:TypeInfo}{k k':IntKind}(h0:argTypes[0]? =some t)(ht:P.underlying t=some (.slice e))(hi:P.info? e=some i)
  (h1:argTypes[1]? =some xt) (hd:P.underlying xt=some (.int k)) {m:Nat} (h63:m<=140737488355328) (h48:m*i.bytes<=281474976710656) (base:Option Addr) (n c:Nat):
  (Builtin.append_ argTypes ty #[.slice base n c,.int k' m]).run P w=(jcc e i.size true base n c (.slice base n c) (.int k' m) m).run P w:=by
 have wl:IntKind.i64.wrap (m:Int)=m:=by rw[IntKind.wrap_i64];omega
 have hno:¬((281474976710656:Int)<(m:Int)*i.bytes):=by
  have:=Int.ofNat_le.2 h48;rw[Int.natCast_mul]at this;omega
 have hneg:¬((m:Int)<0):=by omega
 unfold Builtin.append_;simp only[h0,h1,List.getElem?_toArray,List.getElem?_cons_zero,List.getElem?_cons_succ];rw[Sem.run_bind,run_underlying ht,Result.andThen_ok];simp only;rw[Sem.run_bind,show(sizeOf e).run P w=.ok i.size w from by simp[sizeOf,typeInfo,hi],Result.andThen_ok];rw[Sem.run_bind,run_underlying hd,Result.andThen_ok];refine(jnI (d:=.int k) (b:=true) rfl _ w).trans ?_;have e1:(asInt (.int k' (m:Int))).run P w=.ok (m:Int) w:=by simp[asInt,asIntOf]
 change (asInt (.int k' (m:Int))>>=fun q=>(if IntKind.i64.wrap q<0 then runtimePanic (.error "makeslice: len out of range")>>=fun _=>zlen e (IntKind.i64.wrap q) (fun k=>jcc e i.size true base n c (.slice base n c) (.int k' m) k)
  else zlen e (IntKind.i64.wrap q) (fun k=>jcc e i.size true base n c (.slice base n c) (.int k' m) k))).run P w=_
 rw[Sem.run_bind,e1,Result.andThen_ok,wl,if_neg hneg];unfold zlen;rw[Sem.run_bind,show(typeInfo e).run P w=.ok i w from by simp[typeInfo,hi],Result.andThen_ok,if_neg (show ¬((m:Int)*(i.bytes:Int)>2^48)from hno),Int.toNat_natCast];rfl
def jms(P:Program)(w:World)(e:TypeId)(i:TypeInfo)(zeros:Bool)(x:Value)(m:Nat)(news:List Value):Prop:=
 ∀w':World,w'.heap=w.heap->((if !zeros then Builtin.firstCells i.size m x else if m*i.size=0 then pure #[]else do pure (Builtin.zeroCells (<-zeroValue e).cells m):Sem (Array Value))).run P w'=.ok news.toArray w'
theorem jey{e:TypeId}{i:TypeInfo}{zeros:Bool}{s x:Value}{m:Nat}{news:List Value}(A:jms P w e i zeros x m news){base:Option Addr}{n c:Nat}(hroom:n+m<=c){w':World}
  (hs:match base with|none=>w'=w|some a=>(storeCells (a.add (n*i.size)) news).run P w=.ok () w'):
  (jcc e i.size zeros base n c s x m).run P w=.ok (.slice base (n+m) c) w':=by
 unfold jcc;simp only[hroom,if_true];rw[Sem.run_bind,A w rfl,Result.andThen_ok];cases base with
 |none=>simp only at hs;subst hs;simp
 |some a=>simp only at hs;simp[hs]
theorem jfL{e:TypeId}{i:TypeInfo}{z:Value}(hi:P.info? e=some i)(hz:i.zero=some z){zeros:Bool}{s x:Value}{m:Nat}{news olds:List Value}(A:jms P w e i zeros x m news){base:Option Addr}{n c:Nat}(hroom:c<n+m)
  (h63:n+m<=2^47) (hby:(n+m)*i.bytes<=2^47) (ho:∀w':World,w'.heap=w.heap->(Builtin.firstCells i.size n s).run P w'=.ok olds.toArray w'):
  (jcc e i.size zeros base n c s x m).run P w=
   .ok (.slice (some ⟨w.heap.size,0,none⟩) (n+m) (grownCap w (n+m) c e)) (w.drew.alloc (.cells (olds.toArray++news.toArray++Builtin.zeroCells z.cells (grownCap w (n+m) c e-(n+m))) e)):=by
 have hn:¬(n+m<=c):=by omega
 have h63':¬((((n+m:Nat):Int)>IntKind.i64.max)/\(zeros=true\/i.bytes=0)):=by
  rintro⟨x,_⟩;have:IntKind.i64.max=9223372036854775807:=rfl;rw[this]at x;omega
 have h48':¬(Builtin.nextslicecap (n+m) c*i.bytes>2^48):=Nat.not_lt.2 (growslice_fits hroom hby);have hfo:=ho w.drew rfl;have hA:=A w.drew rfl;unfold jcc;simp only[hn,if_false];rw[Sem.run_bind];simp only[typeInfo,Sem.run_bind,run_program,hi,Result.andThen_ok,Sem.run_pure,h63',if_false,h48',run_choose,Question.forced,Bool.false_eq_true,run_askRoom];show Result.andThen (Sem.run P (Builtin.firstCells i.size n s) w.drew) _=_;rw[hfo,Result.andThen_ok,hA,Result.andThen_ok];simp only[zeroValue,typeInfo,Sem.run_bind,run_program,hi,Result.andThen_ok,Sem.run_pure,hz,newRow,run_newObj]
 rfl
end
section
variable {C : Ctx} {keep : Keep} {env : Env} {h : Heap} {w : World}
def VRun(C:Ctx)(keep:Keep)(env:Env)(h:Heap)(w:World)(nid:Option Nat)(run:Result Value)(v:AV)(h':Heap):Prop:=
 ∃env' w',run=.ok (v.val C.lk env') w'/\Rel C keep env' h' w'/\KeepW keep w w'/\Ext h env env'/\HGrow h h'/\
  (∀i,i<h.size->nid≠some i->(h'.get i).isSome=(h.get i).isSome)/\v.bel h'.ok
theorem kaU(R:Rel C keep env h w)(nid:Option Nat){run:Result Value}{v:AV}(hr:run=.ok (v.val C.lk env) w)(hb:v.bel h.ok):VRun C keep env h w nid run v h:=
 ⟨env,w,hr,R,kaz _ _,kam _ _,kay _,fun _ _ _=>rfl,hb⟩
theorem kbl(R:Rel C keep env h w)(nid:Option Nat){i:Nat}{b b':ABlk}(hi:h.get i=some b){w':World}(R':Rel C keep env (h.put i b') w')(K:KeepW keep w w'){run:Result Value}{v:AV}
  (hr:run=.ok (v.val C.lk env) w') (hb:v.bel h.ok):VRun C keep env h w nid run v (h.put i b'):=
 have hl:HLe h (h.put i b'):=jds hi
 ⟨env,w',hr,R',K,kam _ _,hl.grow,fun j hj _=>hl.same j hj,bel_mono (fun j hj=>hl.ok hj) v hb⟩
theorem jfM(R:Rel C keep env h w){nid:Option Nat}(hr:h.room nid=true){e:TypeId}{i:TypeInfo}{z:Value}(hzs:z.cells.size=i.size)(hsz:0<i.size){olds news:List AV}{n m c:Nat}
  (hlo:olds.length=n*i.size) (hln:news.length=m*i.size) (hbo:∀v∈olds,v.bel h.ok) (hbn:∀v∈news,v.bel h.ok) {run:Result Value}
  (hrun:run=.ok (.slice (some ⟨w.heap.size,0,none⟩) (n+m) (grownCap w (n+m) c e))
   (w.drew.alloc (.cells ((olds.map (AV.val C.lk env)).toArray++(news.map (AV.val C.lk env)).toArray++Builtin.zeroCells z.cells (grownCap w (n+m) c e-(n+m))) e))):
  VRun C keep env h w nid run (.slice (h.nid nid) 0 (n+m) (.unk 0)) (h.new nid (.cells (olds++news) true i.size)):=by
 have hge:=grownCap_ge w (n+m) c e;have R':Rel C keep env h w.drew:=R.heap_eq rfl;have A:=jfK R' hr (olds++news) i.size (grownCap w (n+m) c e) ((olds.map (AV.val C.lk env)).toArray++(news.map (AV.val C.lk env)).toArray++Builtin.zeroCells z.cells (grownCap w (n+m) c e-(n+m))) e
  (fun k v hk=>by
   have hlt:k<(olds++news).length:=(List.getElem?_eq_some_iff.1 hk).1;rw[show(olds.map (AV.val C.lk env)).toArray++(news.map (AV.val C.lk env)).toArray=((olds++news).map (AV.val C.lk env)).toArray from by simp,Array.getElem?_append_left (by simpa using hlt)];exact jjU C.lk env _ k v hk)
  (fun _=>by
   simp only[List.length_append,hlo,hln,<-Nat.add_mul,Array.size_append,List.size_toArray,List.length_map,size_zeroCells,hzs];exact⟨Nat.mul_le_mul_right _ hge,by apply Nat.le_of_eq;congr 1;omega⟩)
  (fun v hv=>by rcases List.mem_append.1 hv with x|x;exact hbo v x;exact hbn v x)
 refine⟨_,_,hrun.trans ?_,A.1,(joA keep w).trans A.2.1,A.2.2,jdX hr _,jd0 hr _,(jc0 hr).2 (.inl rfl)⟩;simp only[AV.val,updE,if_true,Cap.at,Nat.sub_zero];rfl
theorem VRun.afterDead{i:Nat}{b:ABlk}(hi:h.get i=some b){nid:Option Nat}{run:Result Value}{v:AV}{h':Heap}(V:VRun C keep env (h.put i .dead) w nid run v h'):VRun C keep env h w nid run v h':=by
 obtain⟨env',w',a,b',c,d,e,f,g⟩:=V;have hl:HLe h (h.put i .dead):=jds hi;exact⟨env',w',a,b',c,fun j hj=>d j (hl.ok hj),hl.grow.trans e,fun j hj hn=>(f j hj hn).trans (hl.same j hj),g⟩
theorem jnJ{i:Nat}{b b':ABlk}(hi:h.get i=some b){nid:Option Nat}(hr:h.room nid=true):(h.put i b').room nid=true:=by
 cases nid with
 |none=>rfl
 |some n=>
  simp only[Heap.room,Bool.and_eq_true,decide_eq_true_eq,Option.isNone_iff_eq_none]at hr|-;refine⟨?_,hr.2⟩;rw[kaj _ _ _ _ (kab hi),if_neg]
  ·exact hr.1
  ·intro e;subst e;rw[hi]at hr;cases hr.1
theorem jrT(R:Rel C keep env h w){i:Nat}{vs:List AV}{u:Nat}(hi:h.get i=some (.cells vs true u))(hu:0<u){l n m:Nat}{news:List AV}(hle:l*u+n*u<=vs.length)(hln:news.length=m*u)
  (hroom:n+m<=(env i).cap-l) (hone:news.all AV.one=true) (hbn:∀v∈news,v.bel h.ok) {nid:Option Nat} (hr:h.room nid=true):
  ∃ w', (storeCells ((⟨(env i).blk, (env i).sh + l * u, none⟩ : Addr).add (n * u)) (news.map (AV.val C.lk env))).run C.P w = .ok () w' /\
   ∀run:Result Value,run=.ok (.slice (some ⟨(env i).blk,(env i).sh+l*u,none⟩) (n+m) ((env i).cap-l)) w'->
    VRun C keep env h w nid run (.slice (h.nid nid) 0 (n+m) (.unk 0)) ((h.put i .dead).new nid (.cells (cut vs (l*u) (n*u)++news) true u)):=by
 obtain⟨cur,t,h1,h2,h3⟩:=R.blk i _ hi;obtain⟨h4,h5⟩:=h3 hu;have hcap:=jhI R hi hu rfl hle;have hfit:(env i).sh+l*u+n*u+m*u<=cur.size:=by
  have:(l+n+m)*u<=(env i).cap*u:=Nat.mul_le_mul_right _ (by omega);rw[Nat.add_mul,Nat.add_mul]at this;omega
 have hst:=run_storeCells_at C.P (env i).blk ((env i).sh+l*u+n*u) t (news.map (AV.val C.lk env)) 0 cur w h1 (by simp[hln];omega) (by
  intro v hv;obtain⟨a,ha,rfl⟩:=List.mem_map.1 hv;rw[jnH];exact List.all_eq_true.1 hone a ha)
 refine⟨_,by rw[jdt];exact hst,?_⟩;intro run hrun
 -- the world in which the row is written
 generalize hw':w.setRow (env i).blk (cur.toList.take ((env i).sh+l*u+n*u+0)++news.map (AV.val C.lk env)++cur.toList.drop ((env i).sh+l*u+n*u+0+(news.map (AV.val C.lk env)).length)).toArray=w' at*;have hrow:w'.heap[(env i).blk]? =some (.cells (cur.toList.take ((env i).sh+l*u+n*u+0)++news.map (AV.val C.lk env)++cur.toList.drop ((env i).sh+l*u+n*u+0+(news.map (AV.val C.lk env)).length)).toArray t (0,0)):=by
  rw[<-hw'];exact setRow_heap w _ cur _ t (0,0) h1
 have hoth:∀r,r≠(env i).blk->w'.heap[r]? =w.heap[r]? :=fun r hr=>by rw[<-hw'];exact setRow_other w _ r _ hr
 have hsize:w'.heap.size=w.heap.size:=by rw[<-hw'];simp
 have hos:w'.os=w.os/\w'.tape=w.tape/\w'.output=w.output:=by rw[<-hw'];exact⟨rfl,rfl,rfl⟩
 clear hst;have hdead:=R.dead hi;have hlt:=kab hi;have hgd:=fun j=>kaj h i j .dead hlt;have hr':(h.put i .dead).room nid=true:=jnJ hi hr;have hn:=jew hr';have hnid:(h.put i .dead).nid nid=h.nid nid:=by cases nid<;>rfl
 rw[hnid]at hn;have hni:h.nid nid≠i:=by
  intro e;rw[e,hgd,if_pos rfl]at hn;cases hn
 have hnh:h.get (h.nid nid)=none:=by rw[hgd,if_neg hni]at hn;exact hn
 let E:EB:=⟨(env i).blk,(env i).sh+l*u,(env i).cap-l⟩
 have hx:Ext h env (updE env (h.nid nid) E):=jbY hnh env E;have hself:updE env (h.nid nid) E (h.nid nid)=E:=by simp[updE]
 have hgn:∀j,((h.put i .dead).new nid (.cells (cut vs (l*u) (n*u)++news) true u)).get j=if j=h.nid nid then some (.cells (cut vs (l*u) (n*u)++news) true u)else if j=i then some .dead else h.get j:=by
  intro j;rw[jdr hr',hnid,hgd]
 have hokn:∀j,h.ok j->((h.put i .dead).new nid (.cells (cut vs (l*u) (n*u)++news) true u)).ok j:=by
  intro j hj;simp only[Heap.ok,hgn];by_cases e1:j=h.nid nid
  ·simp[e1]
  ·by_cases e2:j=i
   ·simp[e2,Ne.symm hni]
   ·simpa[Heap.ok,e1,e2]using hj
 have hold:∀j c,h.get j=some c->updE env (h.nid nid) E j=env j:=fun j c hc=>hx j (by simp[Heap.ok,hc]);have hlive:∀j c,j≠i->h.get j=some c->c≠.dead->(env j).blk≠(env i).blk:=fun j c hj hc hd=>R.disj i j _ c hi hc (Ne.symm hj) rfl hd;have hlcut:(cut vs (l*u) (n*u)).length=n*u:=by simp[cut];omega
 refine⟨updE env (h.nid nid) E,w',hrun.trans ?_,⟨?_,?_,?_,?_,?_,?_,?_,?_⟩,⟨hos.1,hos.2.1,hos.2.2,by omega,fun r hr=>hoth r (fun x=>hr.elim (fun hr=>R.kept i _ hi rfl (x▸hr)) (fun hr=>R.hid i _ hi (by intro y;cases y) (x▸hr)))⟩,hx,⟨?_,hokn⟩,?_,?_⟩
 ·simp only[AV.val,hself,Cap.at,E,Nat.sub_zero,Nat.add_zero]
 ·intro j c hc;rw[hgn]at hc;by_cases e1:j=h.nid nid
  ·rw[e1,hself];have:=R.lt i _ hi;show(env i).blk<_;omega
  ·rw[if_neg e1]at hc;by_cases e2:j=i
   ·rw[e2,hold i _ hi];have:=R.lt i _ hi;omega
   ·rw[if_neg e2]at hc;rw[hold j c hc];have:=R.lt j c hc;omega
 ·intro j c hc;rw[hgn]at hc;by_cases e1:j=h.nid nid
  ·rw[if_pos e1]at hc;cases hc;rw[e1,hself];refine⟨_,t,hrow,fun k v hk=>?_,fun _=>⟨?_,?_⟩⟩
   ·have hb:v.bel h.ok:=by
     rcases List.mem_append.1 (List.mem_of_getElem? hk)with x|x
     ·exact jfi R hi _ _ v x
     ·exact hbn v x
    rw[hx.val hb];simp only[List.getElem?_toArray,Nat.add_zero];rw[jmr _ _ _ _ (by simp[hln];omega)];simp only[List.length_map,hln,E];rw[List.getElem?_append,hlcut]at hk;by_cases hkn:k<n*u
    ·rw[if_pos hkn]at hk;rw[if_pos (by omega)];simp only[cut,List.getElem?_take,hkn,if_true,List.getElem?_drop]at hk;have:=h2 (l*u+k) v hk;rw[<-Nat.add_assoc]at this;simpa using this
    ·rw[if_neg hkn]at hk;have hkm:k-n*u<m*u:=by rw[<-hln];exact(List.getElem?_eq_some_iff.1 hk).1
     rw[if_neg (by omega),if_pos (by omega),List.getElem?_map,show(env i).sh+l*u+k-((env i).sh+l*u+n*u)=k-n*u from by omega,hk];rfl
   ·rw[List.length_append,hlcut,hln,<-Nat.add_mul];exact Nat.mul_le_mul_right _ hroom
   ·have e1:((env i).cap-l)*u=(env i).cap*u-l*u:=Nat.mul_sub_right_distrib ..;have e2:l*u<=(env i).cap*u:=Nat.mul_le_mul_right _ hcap.2;simp only[E,List.size_toArray,List.length_append,List.length_take,List.length_drop,Array.length_toList,List.length_map,Nat.add_zero,hln];omega
  ·rw[if_neg e1]at hc;by_cases e2:j=i
   ·rw[if_pos e2]at hc;cases hc;trivial
   ·rw[if_neg e2]at hc;rw[hold j c hc];by_cases hd:c=.dead
    ·subst hd;trivial
    ·exact(R.blk j c hc).mono hx (R.bel j c hc) (hoth _ (hlive j c e2 hc hd))
 ·intro j k c d hc hd hjk hwr hdd;rw[hgn]at hc hd;by_cases e1:j=h.nid nid
  ·have e2:k≠h.nid nid:=fun x=>hjk (e1.trans x.symm);rw[if_neg e2]at hd;by_cases e3:k=i
   ·rw[if_pos e3]at hd;cases hd;exact absurd rfl hdd
   ·rw[if_neg e3]at hd;rw[e1,hself,hold k d hd];exact hlive k d e3 hd hdd
  ·rw[if_neg e1]at hc;by_cases e2:j=i
   ·rw[if_pos e2]at hc;cases hc;cases hwr
   ·rw[if_neg e2]at hc;have hcd:c≠.dead:=by rintro rfl;cases hwr
    by_cases e3:k=h.nid nid
    ·rw[e3,hself,hold j c hc];exact Ne.symm (hlive j c e2 hc hcd)
    ·rw[if_neg e3]at hd;by_cases e4:k=i
     ·rw[if_pos e4]at hd;cases hd;exact absurd rfl hdd
     ·rw[if_neg e4]at hd;rw[hold j c hc,hold k d hd];exact R.disj j k c d hc hd hjk hwr hdd
 ·intro j c hc;rw[hgn]at hc;by_cases e1:j=h.nid nid
  ·rw[if_pos e1]at hc;cases hc;intro v hv;refine Ae.bel_mono hokn v ?_;rcases List.mem_append.1 hv with x|x
   ·exact jfi R hi _ _ v x
   ·exact hbn v x
  ·rw[if_neg e1]at hc;by_cases e2:j=i
   ·rw[if_pos e2]at hc;cases hc;trivial
   ·rw[if_neg e2]at hc;exact kao hokn (R.bel j c hc)
 ·intro j c hc hwr;rw[hgn]at hc;by_cases e1:j=h.nid nid
  ·rw[e1,hself];exact R.kept i _ hi rfl
  ·rw[if_neg e1]at hc;by_cases e2:j=i
   ·rw[if_pos e2]at hc;cases hc;cases hwr
   ·rw[if_neg e2]at hc;rw[hold j c hc];exact R.kept j c hc hwr
 ·intro r hr;have:=R.keepLt r hr;omega
 ·intro j c hc hd;rw[hgn]at hc;by_cases e1:j=h.nid nid
  ·rw[e1,hself];exact R.hid i _ hi (by intro x;cases x)
  ·rw[if_neg e1]at hc;by_cases e2:j=i
   ·rw[if_pos e2]at hc;cases hc;exact absurd rfl hd
   ·rw[if_neg e2]at hc;rw[hold j c hc];exact R.hid j c hc hd
 ·intro r hr;have:=R.hidLt r hr;omega
 ·cases nid<;>simp[Heap.new]
 ·intro j hj hne;rw[hgn,if_neg (by
   intro e;cases nid with
   |none=>simp[Heap.nid]at e;omega
   |some q=>simp[Heap.nid]at e;exact hne (by rw[e]))]
  by_cases e2:j=i
  ·rw[if_pos e2,e2,hi];rfl
  ·rw[if_neg e2]
 ·simp only[AV.bel,Heap.ok,hgn,if_true,Option.isSome_some]
structure AppOk (C:Ctx) (env:Env) (h:Heap) (w:World) (e:TypeId) (i:TypeInfo) (zeros:Bool) (x:Value) (m:Nat) (news:List AV) (argTypes:Array TypeId) (ty:TypeId):Prop where
 eq:∀base n c,(Builtin.append_ argTypes ty #[.slice base n c,x]).run C.P w=(jcc e i.size zeros base n c (.slice base n c) x m).run C.P w
 runs:jms C.P w e i zeros x m (news.map (AV.val C.lk env))
 len:news.length=m*i.size
 bel:∀v∈news,v.bel h.ok
theorem jfN(R:Rel C keep env h w){e ty:TypeId}{i:TypeInfo}{z:Value}(hi:C.P.info? e=some i)(hz:i.zero=some z)(hzs:z.cells.size=i.size)(hsz:0<i.size)(hby:0<i.bytes){zeros:Bool}{x:Value}{m:Nat}{news:List AV}{argTypes:Array TypeId}
  (A:AppOk C env h w e i zeros x m news argTypes ty) {s:AV} (hs:s.bel h.ok) {nid:Option Nat} {v:AV} {h':Heap} (ha:jav h nid i.size i.bytes s m news=some (v,h')):
  VRun C keep env h w nid ((Builtin.append_ argTypes ty #[s.val C.lk env,x]).run C.P w) v h':=by
 have hbnd:∀q:Nat,q*i.bytes<=2^40->q<=2^47/\q*i.bytes<=2^47:=by
  intro q hq;have:q*1<=q*i.bytes:=Nat.mul_le_mul_left _ hby;omega
 have news0:m=0->news=[]:=fun e=>List.eq_nil_of_length_eq_zero (by rw[A.len,e];simp);unfold jav at ha;split at ha
 ·-- nil
  split at ha
  ·rename_i hm;cases ha;subst hm;refine kaU R nid ?_ trivial;simp only[AV.val];rw[A.eq,jey A.runs (base:=none) (by omega) (w':=w) rfl]
  ·rename_i hm;split at ha
   ·rename_i hc;cases ha;have hb:=hbnd m hc.1;have:=jfM R hc.2 (e:=e) (z:=z) (i:=i) hzs hsz (olds:=[]) (news:=news) (n:=0) (m:=m) (c:=0) (by simp) A.len (by simp) A.bel
     (run:=(Builtin.append_ argTypes ty #[AV.nilslice.val C.lk env,x]).run C.P w) (by
      simp only[AV.val];rw[A.eq,jfL hi hz A.runs (olds:=[]) (by omega) (by omega) (by rw[Nat.zero_add];exact hb.2) (fun w' _=>by simp[Builtin.firstCells])];simp)
    simpa using this
   ·cases ha
 ·-- known
  rename_i b o n c;split at ha
  ·rename_i hm;split at ha
   ·rename_i hnc;cases ha;subst hm;refine kaU R nid ?_ hs;simp only[AV.val,Cap.at];rw[A.eq,jey A.runs (by have:=hnc.1;omega) (w':=w) (by rw[news0 rfl];rfl)];rfl
   ·cases ha
  ·split at ha
   ·rename_i hm vs u hb;split at ha
    ·rename_i hle;split at ha
     ·rename_i hroom;split at ha
      ·rename_i hc;cases ha;have hl2:o+n*i.size+news.length<=vs.length:=by rw[A.len,Nat.add_assoc,<-Nat.add_mul];exact hc.1
       obtain⟨w',hst,r1,r2⟩:=jjV R hb (o:=o+n*i.size) (cs:=news) hl2 hc.2 A.bel;refine kbl R nid hb r1 r2 ?_ hs;simp only[AV.val,Cap.at];rw[A.eq,jey A.runs hroom (w':=w') (by simp only;rw[jdt,Nat.add_assoc];exact hst)]
      ·cases ha
     ·rename_i hroom;split at ha
      ·rename_i hc;cases ha;have hb2:=hbnd (n+m) hc.1;have hcon:jaH h i.size (.slice b o n (.known c))=some (n,cut vs o (n*i.size)):=by simp[jaH,hb,hle]
       refine jfM R hc.2 (e:=e) (z:=z) (i:=i) (c:=c) hzs hsz (by simp[cut];omega) A.len (jfi R hb _ _) A.bel ?_;simp only[AV.val,Cap.at];rw[A.eq,jfL hi hz A.runs (olds:=(cut vs o (n*i.size)).map (AV.val C.lk env)) (by omega) hb2.1 hb2.2 (fun w' hw'=>by
        have:=jcn (R.heap_eq hw') hcon n (Nat.le_refl _);rw[List.take_of_length_le (by simp[cut];omega)]at this;exact this)]
      ·cases ha
    ·cases ha
   ·rename_i hm vs u hb;split at ha
    ·rename_i hc;cases ha;obtain⟨hle,hroom,hby2,hr⟩:=hc;have hb2:=hbnd (n+m) hby2;have hcon:jaH h i.size (.slice b o n (.known c))=some (n,cut vs o (n*i.size)):=by simp[jaH,hb,hle]
     refine jfM R hr (e:=e) (z:=z) (i:=i) (c:=c) hzs hsz (by simp[cut];omega) A.len (jfi R hb _ _) A.bel ?_;simp only[AV.val,Cap.at];rw[A.eq,jfL hi hz A.runs (olds:=(cut vs o (n*i.size)).map (AV.val C.lk env)) (by omega) hb2.1 hb2.2 (fun w' hw'=>by
      have:=jcn (R.heap_eq hw') hcon n (Nat.le_refl _);rw[List.take_of_length_le (by simp[cut];omega)]at this;exact this)]
    ·cases ha
   ·cases ha
 ·-- unknown
  rename_i b o n l;split at ha
  ·rename_i vs u hb;split at ha
   ·rename_i hc;cases ha;obtain⟨rfl,rfl,hle,hone,hby2,hr,hm⟩:=hc;have hb2:=hbnd (n+m) hby2;have hcap:=jhI R hb hsz rfl hle;by_cases hroom:n+m<=(env b).cap-l
    ·obtain⟨w',hst,hV⟩:=jrT R hb hsz hle A.len hroom hone A.bel hr;refine hV _ ?_;simp only[AV.val,Cap.at];rw[A.eq,jey A.runs hroom (w':=w') hst]
    ·have hcon:jaH h i.size (.slice b (l*i.size) n (.unk l))=some (n,cut vs (l*i.size) (n*i.size)):=by simp[jaH,hb,hle]
     have hd:=R.dead hb;have hbel:∀v:AV,v.bel h.ok->v.bel (h.put b .dead).ok:=fun v hv=>bel_mono (fun j hj=>(jds hb).ok hj) v hv;have hnid:(h.put b .dead).nid nid=h.nid nid:=by cases nid<;>rfl
     have:=jfM hd (jnJ hb hr) (e:=e) (z:=z) (i:=i) (c:=(env b).cap-l) (olds:=cut vs (l*i.size) (n*i.size)) (news:=news) (n:=n) (m:=m) hzs hsz (by simp[cut];omega) A.len (fun v hv=>hbel v (jfi R hb _ _ v hv)) (fun v hv=>hbel v (A.bel v hv))
      (run:=(Builtin.append_ argTypes ty #[(AV.slice b (l*i.size) n (.unk l)).val C.lk env,x]).run C.P w) (by
       simp only[AV.val,Cap.at];rw[A.eq,jfL hi hz A.runs (olds:=(cut vs (l*i.size) (n*i.size)).map (AV.val C.lk env)) (by omega) hb2.1 hb2.2 (fun w' hw'=>by
        have:=jcn (R.heap_eq hw') hcon n (Nat.le_refl _);rw[List.take_of_length_le (by simp[cut];omega)]at this;exact this)])
     rw[hnid]at this;exact this.afterDead hb
   ·split at ha
    ·rename_i hc;cases ha;obtain⟨rfl,rfl,hle,rfl⟩:=hc;have hcap:=jhI R hb hsz rfl hle;refine kaU R nid ?_ hs;simp only[AV.val,Cap.at];rw[A.eq,jey A.runs (by omega) (w':=w) (by rw[news0 rfl];rfl)];rfl
    ·cases ha
  ·cases ha
 ·cases ha
end
end Go.Ae
