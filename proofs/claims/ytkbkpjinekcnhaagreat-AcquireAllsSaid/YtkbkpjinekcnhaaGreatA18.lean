/- Texts of the proof, part 18: a second reading of the lowered code, proved sound, and what the functions compute. -/
import Derived.Test.YtkbkpjinekcnhaaGreatA17
set_option linter.unusedSimpArgs false
set_option linter.unusedVariables false
set_option maxRecDepth 20000
set_option maxHeartbeats 4000000
namespace Go.Ae
variable {C : Ctx} {h h' : Heap} {v vp : AV} {p : PlanP} {w w' : World} {env : Env} {kp : Keep} {ops : Array Oper} {st : St} {i n m j sz u : Nat} {l : List Int} {s : List (Int × Int)} {prn b f : Int} {cs vs : List AV} {nid : Option Nat} {o : Oper} {P : Program}
open Go.Conc
def WpM(P:Program)(c:Code)(Q:Out->Phase->Keep->Act->World->Prop)(ph:Phase)(kp:Keep)(a:Act)(w:World):Prop:=
 ∀(Fin:Value->World->Prop) (p:Prop) (b:Frame) (k:List Item) (cs:List Frame),b.roundOf=none->b.kind≠.early->
  (∀o ph' kp' a' w',Q o ph' kp' a' w'->jo5 (PJ P Fin p ph') b k cs o kp' a' w')->PJ P Fin p ph kp (G (b.atR a (.code c::k)) cs) w
def OpsM(P:Program)(ops:Array Oper)(todo:List Nat)(Q:Phase->Keep->Act->World->Prop)(ph:Phase)(kp:Keep)(a:Act)(w:World):Prop:=
 ∀(Fin:Value->World->Prop) (p:Prop) (b:Frame) (k:List Item) (cs:List Frame),b.roundOf=none->b.kind≠.early->
  (∀ph' kp' a' w',Q ph' kp' a' w'->PJ P Fin p ph' kp' (G (b.atR a' k) cs) w')->PJ P Fin p ph kp (G (b.atR a (.inRegion ops todo::k)) cs) w
def OpM(P:Program)(ops:Array Oper)(i:Nat)(Q:Phase->Keep->Act->World->Prop)(ph:Phase)(kp:Keep)(a:Act)(w:World):Prop:=
 ∀(Fin:Value->World->Prop) (p:Prop) (b:Frame) (rest:List Nat) (k:List Item) (cs:List Frame),b.roundOf=none->b.kind≠.early->
  (∀ph' kp' a' w',Q ph' kp' a' w'->PJ P Fin p ph' kp' (G (b.atR a' (.inRegion ops rest::k)) cs) w')->PJ P Fin p ph kp (G (b.atR a (.inRegion ops (i::rest)::k)) cs) w
section
variable {P : Program} {ph : Phase} {kp : Keep} {a : Act} {w : World} {Q Q' : Out -> Phase -> Keep -> Act -> World -> Prop}
theorem jic{c:Code}(h:WpM P c Q ph kp a w)(hq:∀o ph' kp' a' w',Q o ph' kp' a' w'->Q' o ph' kp' a' w'):WpM P c Q' ph kp a w:=
 fun Fin p b k cs hro hb hk=>h Fin p b k cs hro hb fun o ph' kp' a' w' x=>hk o ph' kp' a' w' (hq _ _ _ _ _ x)
theorem jsK{x y:Code}(h:WpM P x (fun o ph' kp' a' w'=>match o with|.normal=>WpM P y Q ph' kp' a' w'|o=>Q o ph' kp' a' w') ph kp a w):WpM P (.seq x y) Q ph kp a w:=by
 intro Fin p b k cs hro hb hk;refine(jcw ph).ctl rfl rfl (fun _=>jo0) (h Fin p b (.code y::k) cs hro hb fun o ph' kp' a' w' q=>?_);cases o with
 |normal=>exact q Fin p b k cs hro hb hk
 |exit id=>exact fun k2 e=>hk _ _ _ _ _ q k2 e
 |ret=>exact fun k2=>hk _ _ _ _ _ q k2
theorem jrk{id:Nat}{c:Code}(h:WpM P c (fun o ph' kp' a' w'=>match o with|.exit id'=>if id'=id then Q .normal ph' kp' a' w' else Q (.exit id') ph' kp' a' w'|o=>Q o ph' kp' a' w') ph kp a w):WpM P (.block id c) Q ph kp a w:=by
 intro Fin p b k cs hro hb hk;refine(jcw ph).ctl rfl rfl (fun _=>jm0) (h Fin p b (.inBlock id::k) cs hro hb fun o ph' kp' a' w' q=>?_);cases o with
 |normal=>exact(jcw ph').ctl rfl rfl (fun _=>jiM) (hk _ _ _ _ _ q)
 |ret=>exact fun k2=>hk _ _ _ _ _ q k2
 |exit id'=>
  intro k2 e;dsimp only at q;by_cases hi:id'=id
  ·subst hi;rw[if_pos rfl]at q;exact(jcw ph').ctl rfl rfl (fun _=>jo2 (by rw[e];simp[exitTo])) (hk _ _ _ _ _ q)
  ·rw[if_neg hi]at q;exact hk _ _ _ _ _ q k2 (by rw[e];simp[exitTo,Ne.symm hi])
theorem jsl{c:Code}(I:Nat->Phase->Keep->Act->World->Prop){j0:Nat}(h0:I j0 ph kp a w)
  (round:∀j ph kp a w,I j ph kp a w->WpM P c (fun o ph' kp' a' w'=>match o with|.normal=>∃i,i<j/\I i ph' kp' a' w'|o=>Q o ph' kp' a' w') ph kp a w):WpM P (.loop c) Q ph kp a w:=by
 intro Fin p b k cs hro hb hk;refine(jcw ph).ctl rfl rfl (fun _=>jo1) ?_;have key:∀j ph kp a w,I j ph kp a w->PJ P Fin p ph kp (G (b.atR a (.code c:: .inLoop c::k)) cs) w:=by
  intro j
  induction j using Nat.strongRecOn with
  | _ j ih =>
   intro ph kp a w hI;refine round j ph kp a w hI Fin p b (.inLoop c::k) cs hro hb fun o ph' kp' a' w' q=>?_;cases o with
   |normal=>
    obtain⟨i,hlt,hI'⟩:=q;exact(jcw ph').ctl rfl rfl (fun _=>jky) (ih i hlt _ _ _ _ hI')
   |exit id=>exact fun k2 e=>hk _ _ _ _ _ q k2 (by rw[e];simp[exitTo])
   |ret=>exact fun k2=>hk _ _ _ _ _ q k2
 exact key _ _ _ _ _ h0
theorem jqi{id:Nat}(h:OpsM P ops (List.range ops.size) (Q .normal) ph kp a w):WpM P (.region id ops false) Q ph kp a w:=
 fun Fin p b k cs hro hb hk=>(jcw ph).ctl rfl rfl (fun _=>jhs) (h Fin p b k cs hro hb fun ph' kp' a' w' q=>hk _ _ _ _ _ q)
theorem jsL{R:Phase->Keep->Act->World->Prop}(h:R ph kp a w):OpsM P ops [] R ph kp a w:=
 fun Fin p b k cs _ _ hk=>(jcw ph).ctl rfl rfl (fun _=>jdU) (hk _ _ _ _ h)
theorem jmL{rest:List Nat}{R:Phase->Keep->Act->World->Prop}(h:OpM P ops i (fun ph' kp' a' w'=>OpsM P ops rest R ph' kp' a' w') ph kp a w):OpsM P ops (i::rest) R ph kp a w:=
 fun Fin p b k cs hro hb hk=>h Fin p b rest k cs hro hb fun ph' kp' a' w' q=>q Fin p b k cs hro hb hk
theorem jid{R R':Phase->Keep->Act->World->Prop}(h:OpM P ops i R ph kp a w)(hq:∀ph' kp' a' w',R ph' kp' a' w'->R' ph' kp' a' w'):OpM P ops i R' ph kp a w:=
 fun Fin p b rest k cs hro hb hk=>h Fin p b rest k cs hro hb fun ph' kp' a' w' x=>hk ph' kp' a' w' (hq _ _ _ _ x)
end
section
variable {C : Ctx} {ph : Phase} {kp : Keep} {a : Act} {w : World}
theorem jnr{c:Code}{Q:Out->Keep->Act->World->Prop}(h:WpJ (C.at ph) none c Q kp a w):WpM C.P c (fun o ph' kp' a' w'=>ph'=ph/\Q o kp' a' w') ph kp a w:=
 fun Fin p b k cs hro hb hk=>h _ (C.at_fam Fin p ph) b k cs hro hb fun o kp' a' w' q=>hk o ph kp' a' w' ⟨rfl,q⟩
theorem jns{K:Keep->Act->World->Prop}(h:OpJ (C.at ph) none ops i K kp a w):OpM C.P ops i (fun ph' kp' a' w'=>ph'=ph/\K kp' a' w') ph kp a w:=
 fun Fin p b rest k cs hro hb hk=>h _ (C.at_fam Fin p ph) b rest k cs hro hb fun kp' a' w' q=>hk ph kp' a' w' ⟨rfl,q⟩
end
end Go.Ae
namespace Go.Ae
variable {C : Ctx} {h h' : Heap} {v vp : AV} {p : PlanP} {w w' : World} {env : Env} {kp : Keep} {ops : Array Oper} {st : St} {i n m j sz u : Nat} {l : List Int} {s : List (Int × Int)} {prn b f : Int} {cs vs : List AV} {nid : Option Nat} {o : Oper} {P : Program}
open Go.Conc
def ABlk.freeze:ABlk->ABlk
 |.cells vs _ u=>.cells vs false u
 |_=>.dead
def Heap.freeze(h:Heap):Heap:=⟨h.size,fun i=>(h.get i).map ABlk.freeze,fun i hi=>by rw[h.wf i hi];rfl⟩
def Heap.thaw(hs:Heap)(ic:Nat)(h:Heap):Heap:=
 ⟨h.size,fun i=>if i<h.size then(if i<hs.size then(if i=ic then some .dead else hs.get i)else(h.get i).map fun b=>if b.wr then b else .dead)else none,fun i hi=>by rw[if_neg (by omega)]⟩
theorem jdH(h:Heap)(i:Nat):h.freeze.get i=(h.get i).map ABlk.freeze:=rfl
@[simp] theorem size_freeze (h:Heap):h.freeze.size=h.size:=rfl
theorem jie(h:Heap)(i:Nat):h.freeze.ok i↔h.ok i:=by simp[Heap.ok,jdH]
theorem jgz(h:Heap):h.freeze.ok=h.ok:=funext fun i=>propext (jie h i)
@[simp] theorem size_thaw (hs:Heap) (ic:Nat) (h:Heap):(hs.thaw ic h).size=h.size:=rfl
structure AProm where
 av:Nat->AV
 blk:Option (List AV)
structure AProm.Ok (p:AProm):Prop where
 shift:∀(lk:Nat->FuncId) (n:Nat) (env:Env),(p.av n).val lk env=(p.av 0).val lk (fun _=>env n)
 bel:∀(n:Nat) (q:Nat->Prop),(p.blk≠none->q n)->(p.av n).bel q
 cells:∀vs,p.blk=some vs->∀v∈vs,v.bel fun _=>False
def AProm.prom(lk:Nat->FuncId)(B:Nat)(p:AProm):Prom:=fun v w T=>∃e:EB,v=(p.av 0).val lk (fun _=>e)/\
 match p.blk with
 |none=>∀r,¬T r
 |some vs=>B<=e.blk/\e.blk<w.heap.size/\(∀r,T r↔r=e.blk)/\∀k v,vs[k]? =some v->w.cell? ⟨e.blk,e.sh+k,none⟩=some (v.val lk (fun _=>e))
def AProm.land(p:AProm)(h:Heap):Heap:=
 match p.blk with
 |none=>h
 |some vs=>h.push (.cells vs false 0)
structure Since (extra kp0:Keep) (w0:World) (kp:Keep) (w:World):Prop where
 size:w0.heap.size<=w.heap.size
 os:w.os=w0.os
 tape:w.tape=w0.tape
 output:w.output=w0.output
 block:∀r,r<w0.heap.size->extra.no r->¬kp0.hide r->w.heap[r]? =w0.heap[r]?
 hide:∀r,kp0.hide r->kp.hide r
 hide':∀r,extra.no r->kp.hide r->kp0.hide r\/w0.heap.size<=r
structure Ent where
 kp:Keep
 env:Env
 h:Heap
 w:World
structure Snap (C:Ctx) (extra:Keep) (E:Ent) (kp:Keep) (env:Env) (h:Heap) (w:World):Prop where
 rel:Rel C (kp.or extra) env h w
 since:Since extra E.kp E.w kp w
 ext:Ext E.h E.env env
 hle:HLe E.h h
 no:∀r,E.kp.no r->kp.no r
 no':∀r,kp.no r->E.kp.no r\/E.w.heap.size<=r
def Keep.below(extra:Keep)(n:Nat):Keep:=⟨fun r=>extra.no r\/r<n,extra.hide⟩
inductive Gh where
 |idle
 |busy (ic:Nat) (aps:List AProm) (hs:Heap)
structure Busy (C:Ctx) (extra:Keep) (nt:Nat) (E:Ent) (ic:Nat) (aps:List AProm) (hs:Heap) (c:Nat) (ps:List Prom) (kps:Keep) (envs:Env) (ws:World) (kp:Keep) (env:Env) (st:St) (a:Act) (w:World):Prop where
 snap:Snap C extra E kps envs hs ws
 sim:Sim C (kp.or (extra.below ws.heap.size)) nt env st a w
 ne:aps≠[]
 chan:hs.get ic=some .chan
 hc:c=(envs ic).blk
 hps:ps=aps.map (AProm.prom C.lk ws.heap.size)
 ok:∀p∈aps,p.Ok
 ext:Ext hs envs env
 hle:HLe hs st.h
 no:∀r,r<ws.heap.size->kp.no r
 hidec:kp.hide c
 hide:∀r,kps.hide r->kp.hide r
 hide':∀r,kp.hide r->kps.hide r\/r=c\/ws.heap.size<=r
 rows:∀r,r<ws.heap.size->¬kps.hide r->r≠c->w.heap[r]? =ws.heap[r]?
 size:ws.heap.size<=w.heap.size
 os:w.os=ws.os
 tape:w.tape=ws.tape
 output:w.output=ws.output
def GSim(C:Ctx)(extra:Keep)(nt:Nat)(E:Ent):Gh->Phase->Keep->Env->St->Act->World->Prop
 |.idle,ph,kp,env,st,a,w=>ph=none/\Snap C extra E kp env st.h w/\Sim C (kp.or extra) nt env st a w
 |.busy ic aps hs,ph,kp,env,st,a,w=>∃c ps kps envs ws,ph=some (c,ps)/\Busy C extra nt E ic aps hs c ps kps envs ws kp env st a w
section
variable {C : Ctx} {extra : Keep} {nt : Nat} {E : Ent}
theorem Since.keepJ{kp0 kp':Keep}{w0:World}(h:Since extra kp0 w0 kp w)(K:KeepJ kp extra w kp' w'):Since extra kp0 w0 kp' w':=by
 have hs:=h.size;refine⟨Nat.le_trans h.size K.size,K.os.trans h.os,K.tape.trans h.tape,K.output.trans h.output,fun r hr he hn=>?_,fun r x=>K.hide r (h.hide r x),fun r he x=>?_⟩
 ·rw[K.block r (Nat.lt_of_lt_of_le hr h.size) he (fun x=>(h.hide' r he x).elim hn fun y=>by omega),h.block r hr he hn]
 ·rcases K.hide' r he x with y|y
  ·exact h.hide' r he y
  ·exact .inr (by omega)
theorem Snap.keepJ{kp':Keep}{env':Env}(S:Snap C extra E kp env h w)(K:KeepJ kp extra w kp' w')(R:Rel C (kp'.or extra) env' h' w')(X:Ext h env env')(L:HLe h h'):Snap C extra E kp' env' h' w':=by
 have hs:=S.since.size;refine⟨R,S.since.keepJ K,S.ext.trans S.hle X,S.hle.trans L,fun r x=>K.no r (S.no r x),fun r x=>?_⟩;rcases K.no' r x with y|y
 ·exact S.no' r y
 ·exact .inr (by omega)
theorem jly{keep:Keep}{env:Env}{st:St}{a:Act}{w:World}:∀{ph:Phase},Sim C keep nt env st a w->Sim (C.at ph) keep nt env st a w
 |none,h=>⟨h.size,h.tmps,h.bel,h.defers,h.marks,h.rel.1,h.rel.2,h.rel.3,h.rel.4,h.rel.5,h.rel.6,h.rel.7,h.rel.8⟩
 |some _,h=>⟨h.size,h.tmps,h.bel,h.defers,h.marks,h.rel.1,h.rel.2,h.rel.3,h.rel.4,h.rel.5,h.rel.6,h.rel.7,h.rel.8⟩
theorem jfV{keep:Keep}{env:Env}{st:St}{a:Act}{w:World}:∀{ph:Phase},Sim (C.at ph) keep nt env st a w->Sim C keep nt env st a w
 |none,h=>⟨h.size,h.tmps,h.bel,h.defers,h.marks,h.rel.1,h.rel.2,h.rel.3,h.rel.4,h.rel.5,h.rel.6,h.rel.7,h.rel.8⟩
 |some _,h=>⟨h.size,h.tmps,h.bel,h.defers,h.marks,h.rel.1,h.rel.2,h.rel.3,h.rel.4,h.rel.5,h.rel.6,h.rel.7,h.rel.8⟩
theorem Busy.far{ic:Nat}{aps:List AProm}{hs:Heap}{c:Nat}{ps:List Prom}{kps:Keep}{envs:Env}{ws:World}{kp kp':Keep}{env env':Env}{st st':St}{a a':Act}{w w':World}(B:Busy C extra nt E ic aps hs c ps kps envs ws kp env st a w)
  (S':Sim C (kp'.or (extra.below ws.heap.size)) nt env' st' a' w') (K:KeepJ kp (extra.below ws.heap.size) w kp' w') (X:Ext st.h env env') (L:HLe st.h st'.h):Busy C extra nt E ic aps hs c ps kps envs ws kp' env' st' a' w':=by
 have hsz:=B.size;refine⟨B.snap,S',B.ne,B.chan,B.hc,B.hps,B.ok,B.ext.trans B.hle X,B.hle.trans L,fun r hr=>K.no r (B.no r hr),K.hide _ B.hidec,fun r x=>K.hide r (B.hide r x),fun r x=>?_,fun r hr hn hne=>?_,
  Nat.le_trans B.size K.size,K.os.trans B.os,K.tape.trans B.tape,K.output.trans B.output⟩
 ·rcases Nat.lt_or_ge r ws.heap.size with hr|hr
  ·rcases K.hide' r (.inr hr) x with y|y
   ·exact B.hide' r y
   ·omega
  ·exact .inr (.inr hr)
 ·have hnh:¬kp.hide r:=fun x=>by
   rcases B.hide' r x with y|y|y
   ·exact hn y
   ·exact hne y
   ·omega
  rw[K.block r (by omega) (.inr hr) hnh,B.rows r hr hn hne]
theorem Busy.rely{ic:Nat}{aps:List AProm}{hs:Heap}{c:Nat}{ps:List Prom}{kps:Keep}{envs:Env}{ws:World}{kp':Keep}{a:Act}(B:Busy C extra nt E ic aps hs c ps kps envs ws kp env st a w)(r:Rely kp w kp' w'):Busy C extra nt E ic aps hs c ps kps envs ws kp' env st a w':=
 B.far (B.sim.rely r) (r.keepJ _) (kam _ _) (kax _)
theorem jrl{g:Gh}{c:Code}{ph:Phase}{kp:Keep}{env:Env}{st:St}{a:Act}{w:World}{Q:Out->Gh->St->Prop}(S:GSim C extra nt E g ph kp env st a w)
  (h:wp (C.at ph) nt none (jad C.P C.inv nt c) (fun o st'=>Q o g st') st):
  WpM C.P c (fun o ph' kp' a' w'=>∃g' env' st',GSim C extra nt E g' ph' kp' env' st' a' w'/\Q o g' st') ph kp a w:=by
 have low:∀ph:Phase,jad (C.at ph).P (C.at ph).inv nt c=jad C.P C.inv nt c:=fun ph=>by cases ph<;>rfl
 cases g with
 |idle=>
  obtain⟨rfl,hS,hs⟩:=S;have H:=jeA (C:=C.at none) (extra:=extra) (nt:=nt) default none (jcj _ none) (jcN _ none) c (fun o st'=>Q o .idle st') kp env st a w (by rw[low];exact h) (jly hs) (by intro l hl;cases hl);refine jic (jnr H) ?_;rintro o ph' kp' a' w' ⟨rfl,env',st',F,_,hL,hq⟩;have s':=jfV F.sim;exact⟨.idle,env',st',⟨rfl,hS.keepJ F.keepJ s'.rel F.ext hL,s'⟩,hq⟩
 |busy ic aps hs=>
  obtain⟨c0,ps,kps,envs,ws,rfl,B⟩:=S;have H:=jeA (C:=C.at (some (c0,ps))) (extra:=extra.below ws.heap.size) (nt:=nt) default none (jcj _ none) (jcN _ none) c (fun o st'=>Q o (.busy ic aps hs) st') kp env st a w (by rw[low];exact h) (jly B.sim) (by intro l hl;cases hl);refine jic (jnr H) ?_;rintro o ph' kp' a' w' ⟨rfl,env',st',F,_,hL,hq⟩;exact⟨.busy ic aps hs,env',st',⟨c0,ps,kps,envs,ws,rfl,B.far (jfV F.sim) F.keepJ F.ext hL⟩,hq⟩
theorem jrm{g:Gh}{ops:Array Oper}{i:Nat}{o:Oper}{ph:Phase}{kp:Keep}{env:Env}{st:St}{a:Act}{w:World}{K:Gh->St->Prop}(S:GSim C extra nt E g ph kp env st a w)(ho:ops[i]? =some o)(hw:Region.wanted o (yielded ops a.tmps)=true)
  (h:wpOp (C.at ph) none (jan C.P C.inv nt ops o) (K g) st):
  OpM C.P ops i (fun ph' kp' a' w'=>∃g' env' st',GSim C extra nt E g' ph' kp' env' st' a' w'/\K g' st') ph kp a w:=by
 have low:∀ph:Phase,jan (C.at ph).P (C.at ph).inv nt ops o=jan C.P C.inv nt ops o:=fun ph=>by cases ph<;>rfl
 cases g with
 |idle=>
  obtain⟨rfl,hS,hs⟩:=S;have H:=jfv (C:=C.at none) (extra:=extra) (jly hs) none ho hw (low none) h;refine jid (jns H) ?_;rintro ph' kp' a' w' ⟨rfl,env',st',F,_,h2,hq⟩;have s':=jfV F.sim;exact⟨.idle,env',st',⟨rfl,hS.keepJ F.keepJ s'.rel F.ext ⟨F.grow.size,fun i hi=>h2 i hi (by simp)⟩,s'⟩,hq⟩
 |busy ic aps hs=>
  obtain⟨c0,ps,kps,envs,ws,rfl,B⟩:=S;have H:=jfv (C:=C.at (some (c0,ps))) (extra:=extra.below ws.heap.size) (jly B.sim) none ho hw (low _) h;refine jid (jns H) ?_;rintro ph' kp' a' w' ⟨rfl,env',st',F,_,h2,hq⟩;exact⟨.busy ic aps hs,env',st',⟨c0,ps,kps,envs,ws,rfl,B.far (jfV F.sim) F.keepJ F.ext ⟨F.grow.size,fun i hi=>h2 i hi (by simp)⟩⟩,hq⟩
end
end Go.Ae
namespace Go.Ae
variable {C : Ctx} {h h' : Heap} {v vp : AV} {p : PlanP} {w w' : World} {env : Env} {kp : Keep} {ops : Array Oper} {st : St} {i n m j sz u : Nat} {l : List Int} {s : List (Int × Int)} {prn b f : Int} {cs vs : List AV} {nid : Option Nat} {o : Oper} {P : Program}
open Go.Conc
def jqj(C:Ctx)(gw:Nat)(first args cap:List AV)(ic:Nat)(h:Heap)(p:AProm):Prop:=
 ∀(B:Nat) (kp:Keep) (env:Env) (w:World),Rel C (kp.or kaq) env h w->B<=w.heap.size->(∀r,r<w.heap.size->kp.no r)->kp.hide (env ic).blk->(∀v∈first++args++cap,v.bel h.ok)->
  JW C.P (env ic).blk (p.prom C.lk B) kp (born C.P {target:=.fn (.func (C.lk gw)) (cap.map (AV.val C.lk env)).toArray,args:=((first++args).map (AV.val C.lk env)).toArray}) w
section
variable {C : Ctx} {extra : Keep} {nt : Nat} {E : Ent}
theorem jrn{ops:Array Oper}{o:Oper}{dst:Option Nat}{f:AOpd}{xs:List AOpd}(h:jan C.P C.inv nt ops o={dst:=dst,op:=.comm 0 (f::xs),guard:=none}):
  ∃c fo,o.op=.go c/\c.callee=.value fo/\lowerOpd C.inv fo=some f/\lowerOpds C.inv c.args.toList=some xs/\o.dst=dst/\dstOk nt o.dst=true/\o.guard=none:=by
 unfold jan at h;split at h
 ·rename_i aop g h1 h2 h3;simp only[AOper.mk.injEq]at h;obtain⟨hd,rfl,rfl⟩:=h;have hg:o.guard=none:=by
   cases hg:o.guard with
   |none=>rfl
   |some jw=>
    obtain⟨j,want⟩:=jw;rw[hg]at h3;simp only[jbN]at h3;split at h3<;>cases h3
  cases hop:o.op with
  |go c=>
   rw[hop]at h1;simp only[lowerOp]at h1;split at h1
   ·rename_i fo args hc ha;simp only[Option.map_eq_some_iff]at h1;obtain⟨f',hf,he⟩:=h1;cases he;exact⟨c,fo,rfl,hc,hf,ha,hd,h2,hg⟩
   ·cases h1
  | call c =>
   exfalso;rw[hop]at h1;have h1':ja8 C.P C.inv c=some (.comm 0 (f::xs)):=h1;unfold ja8 at h1';split at h1'
   ·split at h1'
    ·simp only[Option.map_eq_some_iff]at h1';obtain⟨_,_,h1'⟩:=h1';cases h1'
    ·unfold ja2 at h1'
     repeat' split at h1'
     all_goals first
      |(cases h1';done)
      |(simp only[Option.map_eq_some_iff]at h1';obtain⟨_,_,h1'⟩:=h1';cases h1';done)
    ·cases h1'
   ·cases h1'
  |makeFunc fn x y=>
   exfalso;rw[hop]at h1;cases fn<;>simp only[lowerOp]at h1;all_goals first|(cases h1;done)|((repeat' split at h1)<;>cases h1;done)
  |makeMap _ r=>exfalso;rw[hop]at h1;cases r<;>simp only[lowerOp,lowerMap]at h1<;>(repeat' split at h1)<;>cases h1
  |mapUpdate _ _ _ _=>exfalso;rw[hop]at h1;simp only[lowerOp,lowerMap]at h1;(repeat' split at h1)<;>first|(cases h1;done)|(simp only[Option.map_eq_some_iff]at h1;obtain⟨_,_,h1⟩:=h1;cases h1;done)
  |insert _ _ _ _=>exfalso;rw[hop]at h1;simp only[lowerOp,lowerMap]at h1;(repeat' split at h1)<;>first|(cases h1;done)|(simp only[Option.map_eq_some_iff]at h1;obtain⟨_,_,h1⟩:=h1;cases h1;done)
  |lookup _ _ _ _=>exfalso;rw[hop]at h1;simp only[lowerOp,lowerMap]at h1;(repeat' split at h1)<;>first|(cases h1;done)|(simp only[Option.map_eq_some_iff]at h1;obtain⟨_,_,h1⟩:=h1;cases h1;done)
  | _ =>
   exfalso;rw[hop]at h1
   first
    |(simp only[lowerOp]at h1;(repeat' split at h1)<;>first|(cases h1;done)|(simp only[Option.map_eq_some_iff]at h1;obtain⟨_,_,h1⟩:=h1;cases h1;done))
    |(unfold lowerOp at h1;simp only[jbD,jaI]at h1;(repeat' split at h1)<;>first|(cases h1;done)|(simp only[Option.map_eq_some_iff]at h1;obtain⟨_,_,h1⟩:=h1;cases h1;done))
 ·cases h
theorem jdb(h:o.guard=none)(y:Nat->Option Bool):Region.wanted o y=true:=by simp[Region.wanted,h]
theorem Rel.frozen{kp ex':Keep}{env:Env}{h:Heap}{w:World}(R:Rel C (kp.or extra) env h w){c:Nat}(hc:c<w.heap.size)(hcd:∀i b,h.get i=some b->b.freeze≠.dead->(env i).blk≠c)
  (hno:∀r,ex'.no r->r<w.heap.size) (hhide:∀r,ex'.hide r->extra.hide r):Rel C ((kp.shared w.heap.size c).or ex') env h.freeze w:=by
 have hwr:∀b:ABlk,b.freeze.wr=false:=fun b=>by cases b<;>rfl
 have back:∀{i b'},h.freeze.get i=some b'->∃b,h.get i=some b/\b'=b.freeze:=by
  intro i b' hb;rw[jdH]at hb;cases hg:h.get i with
  |none=>rw[hg]at hb;cases hb
  |some b=>rw[hg]at hb;cases hb;exact⟨b,rfl,rfl⟩
 have live:∀b:ABlk,b.freeze≠.dead->b≠.dead:=fun b hb=>by rintro rfl;exact hb rfl
 refine⟨fun i b' hb'=>?_,fun i b' hb'=>?_,fun i j b' c' hb' _ _ hw=>?_,fun i b' hb'=>?_,fun i b' hb' hw=>?_,fun r x=>?_,fun i b' hb' hd x=>?_,fun r x=>?_⟩
 ·obtain⟨b,hb,_⟩:=back hb';exact R.lt i b hb
 ·obtain⟨b,hb,rfl⟩:=back hb';cases b with
  |cells vs wr u=>exact fun k v hk=>R.cell hb hk
  |_=>trivial
 ·obtain⟨b,hb,rfl⟩:=back hb';rw[hwr]at hw;cases hw
 ·obtain⟨b,hb,rfl⟩:=back hb';rw[jgz];cases b with
  |cells vs wr u=>exact(R.bel i (.cells vs wr u) hb:_)
  |_=>trivial
 ·obtain⟨b,hb,rfl⟩:=back hb';rw[hwr]at hw;cases hw
 ·exact x.elim id (hno r)
 ·obtain⟨b,hb,rfl⟩:=back hb';rcases x with(x|x)|x
  ·exact R.hid i b hb (live b hd) (.inl x)
  ·exact hcd i b hb hd x
  ·exact R.hid i b hb (live b hd) (.inr (hhide _ x))
 ·rcases x with(x|rfl)|x
  ·exact R.hidLt r (.inl x)
  ·exact hc
  ·exact R.hidLt r (.inr (hhide _ x))
theorem put_h(st:St)(h:Heap)(d:Option Nat)(v:AV):(St.put {st with h:=h} d v).h=h:=by cases d<;>rfl
theorem jeM(h:Heap):HLe h h.freeze:=⟨Nat.le_refl _,fun i _=>by rw[jdH];cases h.get i<;>rfl⟩
def jif(g:Gh)(st:St)(ic:Nat)(p:AProm):Gh:=
 match g with
 |.idle=>.busy ic [p] st.h
 |.busy ic aps hs=>.busy ic (aps++[p]) hs
def wpGo(C:Ctx)(g:Gh)(fv:AV)(args:List AV)(dst:Option Nat)(K:Gh->St->Prop)(st:St):Prop:=
 match fv with
 | .func gw first cap => ∃ ic p, (match g with | .idle => st.h.get ic = some .chan | .busy ic' _ _ => ic = ic') /\ p.Ok /\ jqj C gw first args cap ic st.h.freeze p /\
   K (jif g st ic p) (St.put {st with h:=st.h.freeze} dst .undef)
 |_=>False
theorem om_go{g:Gh}{ops:Array Oper}{i:Nat}{o:Oper}{ph:Phase}{kp:Keep}{env:Env}{st:St}{a:Act}{w:World}{K:Gh->St->Prop}(S:GSim C extra nt E g ph kp env st a w)(ho:ops[i]? =some o){dst:Option Nat}{f:AOpd}{xs:List AOpd}
  (hl:jan C.P C.inv nt ops o={dst:=dst,op:=.comm 0 (f::xs),guard:=none}) (h:wpGo C g (f.ev st.t) (xs.map (·.ev st.t)) dst K st):
  OpM C.P ops i (fun ph' kp' a' w'=>∃g' env' st',GSim C extra nt E g' ph' kp' env' st' a' w'/\K g' st') ph kp a w:=by
 obtain⟨c,fo,hop,hcal,hf,hx,rfl,hd,hg⟩:=jrn hl;have hw:=jdb hg (yielded ops a.tmps);unfold wpGo at h;split at h
 case h_2=>exact h.elim
 rename_i gw first cap hfv
 obtain⟨ic,p,hic,hpok,hW,hK⟩:=h
 -- what the state says of the operands
 have key:∀{keep:Keep},Sim C keep nt env st a w->∀v∈first++xs.map (·.ev st.t)++cap,v.bel st.h.ok:=by
  intro keep S v hv;have q:=ja6 S.opd hx;have e2:=S.opd fo f hf;rw[hfv]at e2;rcases List.mem_append.1 hv with hv|hv
  ·rcases List.mem_append.1 hv with hv|hv
   ·exact(ja5 _ _).1 e2.2.1 v hv
   ·exact q.2 v hv
  ·exact(ja5 _ _).1 e2.2.2 v hv
 have run:∀{keep:Keep},Sim C keep nt env st a w->∀w1,(execOp a.eval o).run C.P w1=.ok (.spawn {target:=.fn (.func (C.lk gw)) (cap.map (AV.val C.lk env)).toArray,args:=((first++xs.map (·.ev st.t)).map (AV.val C.lk env)).toArray}) w1/\(execOp a.eval o).events C.P w1 #[]= #[]:=by
  intro keep S w1;have q:=ja6 S.opd hx;have e1:c.args.map a.eval=((xs.map (·.ev st.t)).map (AV.val C.lk env)).toArray:=by rw[<-q.1,<-jcW]
  have e2:=S.opd fo f hf;rw[hfv]at e2;have e3:=e2.1;simp only[AV.val,jbj]at e3;constructor
  ·simp only[execOp,hop,resolve,hcal,Deferred.ofValue,e1,e3,Sem.run_bind,Sem.run_pure,Result.andThen_ok];simp
  ·simp only[execOp,hop,resolve,hcal,Deferred.ofValue,e1,e3,Sem.events_bind,Sem.events_pure,Sem.run_pure,Result.evThen_ok]
 have step:∀{keep:Keep},Sim C keep nt env st a w->∀(b:Frame) (rest:List Nat) (k:List Item) (cs:List Frame),b.kind≠.early->∀w1,stepG C.P true (G (b.atR a (.inRegion ops (i::rest)::k)) cs) w1=
   .spawn (G (b.atR (a.put o.dst undef) (.inRegion ops rest::k)) cs) (born C.P {target:=.fn (.func (C.lk gw)) (cap.map (AV.val C.lk env)).toArray,args:=((first++xs.map (·.ev st.t)).map (AV.val C.lk env)).toArray}) w1 #[]:=by
  intro keep S b rest k cs hb w1;obtain⟨h1,h2⟩:=run S w1;rw[jqC ho hw (fun c' e=>by rw[hop]at e;cases e) hb h1 rfl];simp only[evs,h2,seen_none]
 have undefv:(AV.undef).val C.lk env=undef:=rfl;intro Fin pr b rest k cs hro hb hk;cases g with
 | idle =>
  obtain⟨rfl,hS,hs⟩:=S;have hic:st.h.get ic=some .chan:=hic;by_cases hp:pr
  ·exact .inr hp
  refine .inl (.spawn (env ic).blk (p.prom C.lk w.heap.size) rfl (.inl ⟨rfl,fun x=>hs.rel.hid ic _ hic (by simp) (.inl x),fun x=>hs.rel.hid ic _ hic (by simp) (.inl x),?_⟩) (fun kq w1 r=>⟨_,_,step hs b rest k cs hb w1,rfl,rfl⟩) (fun kq w1 g' ch r hst=>?_) (fun kq w1 g' ch r hst=>?_))
  ·exact hs.rel.blk ic _ hic
  ·rw[step hs b rest k cs hb w1]at hst;cases hst;obtain⟨r1,rfl⟩:=r.ofBoth;have s1:=hs.rely r1;have hcd:∀i b,st.h.get i=some b->b.freeze≠.dead->(env i).blk≠(env ic).blk:=fun i b hi hbd=>s1.rel.disj ic i _ b hic hi (fun e=>by subst e;rw[hic]at hi;cases hi;exact hbd rfl) rfl (by rintro rfl;exact hbd rfl);have RF:=s1.rel.frozen (s1.rel.lt ic _ hic) hcd (ex':=kaq) (fun _ h=>h.elim) (fun _ h=>h.elim);exact hW w.heap.size _ env w1 RF r1.size (fun r hr=>hr) (.inr rfl) (by rw[jgz];exact key hs)
  ·rw [step hs b rest k cs hb w1] at hst;cases hst;obtain ⟨r1, rfl⟩ := r.ofBoth;have s1 := hs.rely r1;have hcd : ∀ i b, st.h.get i = some b -> b.freeze ≠ .dead -> (env i).blk ≠ (env ic).blk := fun i b hi hbd => s1.rel.disj ic i _ b hic hi (fun e => by subst e; rw [hic] at hi; cases hi; exact hbd rfl) rfl (by rintro rfl; exact hbd rfl);have RF := s1.rel.frozen (s1.rel.lt ic _ hic) hcd (ex' := extra.below w.heap.size) (fun r h => h.elim (fun h => s1.rel.keepLt r (.inr h)) fun h => Nat.lt_of_lt_of_le h r1.size) (fun _ h => h);have s2 := s1.put' hd (v := .undef) RF (kam _ _) (jeM _).grow trivial;have hltc : (env ic).blk < w.heap.size := hs.rel.lt ic _ hic
   have hg':GSim C extra nt E (jif .idle st ic p) (some ((env ic).blk,[p.prom C.lk w.heap.size])) ((kp.wider w.heap.size w1.heap.size).shared w1.heap.size (env ic).blk) env (St.put {st with h:=st.h.freeze} o.dst .undef) (a.put o.dst undef) w1:=
    ⟨_,_,kp,env,w,rfl,hS,s2,by simp,hic,rfl,rfl,fun q hq=>by rw[List.mem_singleton]at hq;subst hq;exact hpok,kam _ _,by rw[put_h];exact jeM _,fun r hr=>Nat.lt_of_lt_of_le hr r1.size,.inr rfl,fun r x=>.inl (.inl x),
     fun r x=>by
      rcases x with(x|x)|x
      ·exact .inl x
      ·exact .inr (.inr x.1)
      ·exact .inr (.inl x),
     fun r hr hn _=>r1.row r hr hn,r1.size,r1.os,r1.tape,r1.output⟩
   exact(hk _ _ _ _ ⟨_,env,_,hg',hK⟩).resolve_right hp
 | busy ic' aps hs =>
  obtain⟨c0,ps,kps,envs,ws,rfl,B⟩:=S;have hic:ic=ic':=hic;subst hic;have hne:ps≠[]:=by rw[B.hps];intro e;exact B.ne (List.map_eq_nil_iff.1 e)
  have hcc:(env ic).blk=c0:=by rw[B.ext ic (by simp[Heap.ok,B.chan]),B.hc]
  by_cases hp:pr
  ·exact .inr hp
  refine .inl (.spawn c0 (p.prom C.lk ws.heap.size) rfl (.inr ⟨hne,rfl⟩) (fun kq w1 r=>⟨_,_,step B.sim b rest k cs hb w1,rfl,rfl⟩) (fun kp1 w1 g' ch r hst=>?_) (fun kp1 w1 g' ch r hst=>?_))
  ·rw[step B.sim b rest k cs hb w1]at hst;cases hst;have B1:=B.rely r;have s1:=B1.sim;have hcd:∀i b,st.h.get i=some b->b.freeze≠.dead->(env i).blk≠c0:=fun i b hi hbd e=>s1.rel.hid i b hi (by rintro rfl;exact hbd rfl) (.inl (by rw[e];exact B1.hidec));have RF:=s1.rel.frozen (s1.rel.hidLt _ (.inl B1.hidec)) hcd (ex':=kaq) (fun _ h=>h.elim) (fun _ h=>h.elim);have:=hW ws.heap.size _ env w1 RF B1.size (fun r hr=>hr) (.inr hcc) (by rw[jgz];exact key B.sim);rw[hcc]at this;exact this
  ·rw [step B.sim b rest k cs hb w1] at hst;cases hst;have B1 := B.rely r;have s1 := B1.sim;have hcd : ∀ i b, st.h.get i = some b -> b.freeze ≠ .dead -> (env i).blk ≠ c0 := fun i b hi hbd e => s1.rel.hid i b hi (by rintro rfl; exact hbd rfl) (.inl (by rw [e]; exact B1.hidec));have RF := s1.rel.frozen (s1.rel.hidLt _ (.inl B1.hidec)) hcd (ex' := extra.below ws.heap.size) (fun r h => s1.rel.keepLt r (.inr h)) (fun _ h => h);have s2 := s1.put' hd (v := .undef) RF (kam _ _) (jeM _).grow trivial;have hg' : GSim C extra nt E (jif (.busy ic aps hs) st ic p) (some (c0, ps ++ [p.prom C.lk ws.heap.size])) (kp1.shared w1.heap.size c0) env (St.put { st with h := st.h.freeze } o.dst .undef) (a.put o.dst undef) w1 :=
    ⟨_,_,kps,envs,ws,rfl,B1.snap,s2,by simp,B1.chan,B1.hc,by rw[B1.hps];simp,fun q hq=>by
      rcases List.mem_append.1 hq with hq|hq
      ·exact B1.ok q hq
      ·rw[List.mem_singleton]at hq;subst hq;exact hpok,
     B1.ext,by rw[put_h];exact B1.hle.trans (jeM _),fun r hr=>Nat.lt_of_lt_of_le hr B1.size,.inl B1.hidec,fun r x=>.inl (B1.hide r x),
     fun r x=>by
      rcases x with x|x
      ·exact B1.hide' r x
      ·exact .inr (.inl x),
     B1.rows,B1.size,B1.os,B1.tape,B1.output⟩
   exact(hk _ _ _ _ ⟨_,env,_,hg',hK⟩).resolve_right hp
end
end Go.Ae
namespace Go.Ae
variable {C : Ctx} {h h' : Heap} {v vp : AV} {p : PlanP} {w w' : World} {env : Env} {kp : Keep} {ops : Array Oper} {st : St} {i n m j sz u : Nat} {l : List Int} {s : List (Int × Int)} {prn b f : Int} {cs vs : List AV} {nid : Option Nat} {o : Oper} {P : Program}
open Go.Conc
section
variable {C : Ctx} {extra : Keep} {nt : Nat} {E : Ent}
theorem joC{ops:Array Oper}{o:Oper}{dst:Option Nat}{x:AOpd}(h:jan C.P C.inv nt ops o={dst:=dst,op:=.comm 1 [x],guard:=none}):
  ∃t ch d e z,o.op=.recv t ch false/\C.P.underlying t=some (.chan d e)/\zeroT C.P e=some z/\lowerOpd C.inv ch=some x/\o.dst=dst/\dstOk nt o.dst=true/\o.guard=none:=by
 unfold jan at h;split at h
 ·rename_i aop g h1 h2 h3;simp only[AOper.mk.injEq]at h;obtain⟨hd,rfl,rfl⟩:=h;have hg:o.guard=none:=by
   cases hg:o.guard with
   |none=>rfl
   |some jw=>
    obtain⟨j,want⟩:=jw;rw[hg]at h3;simp only[jbN]at h3;split at h3<;>cases h3
  cases hop:o.op with
  |recv t ch comma=>
   rw[hop]at h1;simp only[lowerOp]at h1;split at h1
   ·rename_i d e x' ht hx;simp only[Option.map_eq_some_iff]at h1;obtain⟨z,hz,he⟩:=h1;cases he;exact⟨t,ch,d,e,z,rfl,ht,hz,hx,hd,h2,hg⟩
   ·cases h1
  | call c =>
   exfalso;rw[hop]at h1;have h1':ja8 C.P C.inv c=some (.comm 1 [x]):=h1;unfold ja8 at h1';split at h1'
   ·split at h1'
    ·simp only[Option.map_eq_some_iff]at h1';obtain⟨_,_,h1'⟩:=h1';cases h1'
    ·unfold ja2 at h1'
     repeat' split at h1'
     all_goals first
      |(cases h1';done)
      |(simp only[Option.map_eq_some_iff]at h1';obtain⟨_,_,h1'⟩:=h1';cases h1';done)
    ·cases h1'
   ·cases h1'
  |makeFunc fn x y=>
   exfalso;rw[hop]at h1;cases fn<;>simp only[lowerOp]at h1;all_goals first|(cases h1;done)|((repeat' split at h1)<;>cases h1;done)
  |makeMap _ r=>exfalso;rw[hop]at h1;cases r<;>simp only[lowerOp,lowerMap]at h1<;>(repeat' split at h1)<;>cases h1
  |mapUpdate _ _ _ _=>exfalso;rw[hop]at h1;simp only[lowerOp,lowerMap]at h1;(repeat' split at h1)<;>first|(cases h1;done)|(simp only[Option.map_eq_some_iff]at h1;obtain⟨_,_,h1⟩:=h1;cases h1;done)
  |insert _ _ _ _=>exfalso;rw[hop]at h1;simp only[lowerOp,lowerMap]at h1;(repeat' split at h1)<;>first|(cases h1;done)|(simp only[Option.map_eq_some_iff]at h1;obtain⟨_,_,h1⟩:=h1;cases h1;done)
  |lookup _ _ _ _=>exfalso;rw[hop]at h1;simp only[lowerOp,lowerMap]at h1;(repeat' split at h1)<;>first|(cases h1;done)|(simp only[Option.map_eq_some_iff]at h1;obtain⟨_,_,h1⟩:=h1;cases h1;done)
  | _ =>
   exfalso;rw[hop]at h1
   first
    |(simp only[lowerOp]at h1;(repeat' split at h1)<;>first|(cases h1;done)|(simp only[Option.map_eq_some_iff]at h1;obtain⟨_,_,h1⟩:=h1;cases h1;done))
    |(unfold lowerOp at h1;simp only[jbD,jaI]at h1;(repeat' split at h1)<;>first|(cases h1;done)|(simp only[Option.map_eq_some_iff]at h1;obtain⟨_,_,h1⟩:=h1;cases h1;done))
 ·cases h
theorem Rel.less{keep keep':Keep}{env:Env}{h:Heap}{w w':World}(R:Rel C keep env h w)(hno:∀r,keep'.no r->keep.no r)(hhide:∀r,keep'.hide r->keep.hide r)(hsz:w'.heap.size=w.heap.size)
  (hrow:∀r,r<w.heap.size->¬keep.hide r->w'.heap[r]? =w.heap[r]?):Rel C keep' env h w':=by
 refine⟨fun i b hi=>by rw[hsz];exact R.lt i b hi,fun i b hi=>?_,R.disj,R.bel,fun i b hi hw x=>R.kept i b hi hw (hno _ x),fun r x=>by rw[hsz];exact R.keepLt r (hno r x),fun i b hi hd x=>R.hid i b hi hd (hhide _ x),fun r x=>by rw[hsz];exact R.hidLt r (hhide r x)⟩;by_cases hd:b=.dead
 ·subst hd;trivial
 ·exact(R.blk i b hi).mono (kam h env) (R.bel i b hi) (hrow _ (R.lt i b hi) (R.hid i b hi hd))
theorem Rel.view{keep:Keep}{env:Env}{h:Heap}{w:World}(R:Rel C keep env h w)(e:EB){vs:List AV}(hlt:e.blk<w.heap.size)(hh:¬keep.hide e.blk)(hw:∀i b,h.get i=some b->b.wr=true->(env i).blk≠e.blk)
  (hv:∀v∈vs,v.bel fun _=>False) (hc:∀k v,vs[k]? =some v->w.cell? ⟨e.blk,e.sh+k,none⟩=some (v.val C.lk (fun _=>e))):Rel C keep (updE env h.size e) (h.push (.cells vs false 0)) w:=by
 have X:Ext h env (updE env h.size e):=jbX (h.wf _ (Nat.le_refl _)) env e;have hself:updE env h.size e h.size=e:=by simp[updE]
 have hold:∀i b,h.get i=some b->updE env h.size e i=env i:=fun i b hb=>X i (by simp[Heap.ok,hb]);refine⟨fun i b hi=>?_,fun i b hi=>?_,fun i j b c hi hj hij hwr hcd=>?_,fun i b hi=>?_,fun i b hi hwr x=>?_,R.keepLt,fun i b hi hd x=>?_,R.hidLt⟩;all_goals rw[kap]at hi
 ·by_cases ei:i=h.size
  ·rw[ei,hself];exact hlt
  ·rw[if_neg ei]at hi;rw[hold i b hi];exact R.lt i b hi
 ·by_cases ei:i=h.size
  ·rw[if_pos ei]at hi;cases hi;rw[ei,hself];intro k v hk;rw[hc k v hk];congr 1;exact jef (fun _ h=>h.elim) v (hv v (List.mem_of_getElem? hk))
  ·rw[if_neg ei]at hi;rw[hold i b hi];exact(R.blk i b hi).mono X (R.bel i b hi) rfl
 ·rw[kap]at hj;by_cases ei:i=h.size
  ·rw[if_pos ei]at hi;cases hi;cases hwr
  ·rw[if_neg ei]at hi;rw[hold i b hi];by_cases ej:j=h.size
   ·rw[ej,hself];exact fun x=>hw i b hi hwr x.symm
   ·rw[if_neg ej]at hj;rw[hold j c hj];exact R.disj i j b c hi hj hij hwr hcd
 ·by_cases ei:i=h.size
  ·rw[if_pos ei]at hi;cases hi;exact fun v hvm=>bel_mono (fun _ h=>h.elim) v (hv v hvm)
  ·rw[if_neg ei]at hi;exact kao (fun j hj=>jfX.2 (.inr hj)) (R.bel i b hi)
 ·by_cases ei:i=h.size
  ·rw[if_pos ei]at hi;cases hi;cases hwr
  ·rw[if_neg ei]at hi;rw[hold i b hi]at x;exact R.kept i b hi hwr x
 ·by_cases ei:i=h.size
  ·rw[ei,hself]at x;exact hh x
  ·rw[if_neg ei]at hi;rw[hold i b hi]at x;exact R.hid i b hi hd x
theorem Rel.land{keep:Keep}{env:Env}{h:Heap}{w:World}(R:Rel C keep env h w){p:AProm}(hp:p.Ok){B:Nat}{T:Nat->Prop}{v:Value}{w0:World}(hΦ:p.prom C.lk B v w0 T)
  (hT:∀r,T r->r<w.heap.size/\¬keep.hide r/\(∀i b,h.get i=some b->b.wr=true->(env i).blk≠r)/\w.heap[r]? =w0.heap[r]?):
  ∃env',Rel C keep env' (p.land h) w/\Ext h env env'/\HLe h (p.land h)/\v=(p.av h.size).val C.lk env'/\(p.av h.size).bel (p.land h).ok:=by
 obtain⟨e,rfl,hΦ⟩:=hΦ;unfold AProm.land;cases hb:p.blk with
 |none=>
  refine⟨env,R,kam _ _,kax _,?_,hp.bel _ _ fun x=>absurd hb x⟩;rw[hp.shift C.lk h.size env];exact jef (fun _ h=>h.elim) _ (hp.bel 0 (fun _=>False) fun x=>absurd hb x)
 |some vs=>
  rw[hb]at hΦ;obtain⟨h1,h2,h3,h4⟩:=hΦ;obtain⟨t1,t2,t3,t4⟩:=hT e.blk ((h3 _).2 rfl);refine⟨updE env h.size e,R.view e t1 t2 t3 (hp.cells vs hb) (fun k v hk=>?_),jbX (h.wf _ (Nat.le_refl _)) env e,jji (n:=none) rfl rfl _,?_,hp.bel _ _ fun _=>jfX.2 (.inl rfl)⟩
  ·rw[<-h4 k v hk];exact World.cell?_of_block (w:=w0) (w':=w) (a:=⟨e.blk,e.sh+k,none⟩) t4
  ·rw[hp.shift _ h.size];simp[updE]
theorem jcs{hs:Heap}{ic:Nat}{b:ABlk}(h1:(hs.thaw ic h).get i=some b):i<h.size/\((i<hs.size/\((i=ic/\b=.dead)\/(i≠ic/\hs.get i=some b)))\/(hs.size<=i/\∃b',h.get i=some b'/\b=if b'.wr then b' else .dead)):=by
 unfold Heap.thaw at h1;dsimp only at h1;split at h1
 ·rename_i hlt;refine⟨hlt,?_⟩;split at h1
  ·rename_i h2;split at h1
   ·rename_i e;cases h1;exact .inl ⟨h2,.inl ⟨e,rfl⟩⟩
   ·rename_i e;exact .inl ⟨h2,.inr ⟨e,h1⟩⟩
  ·rename_i h2;simp only[Option.map_eq_some_iff]at h1;obtain⟨b',hb',e⟩:=h1;exact .inr ⟨by omega,b',hb',e.symm⟩
 ·cases h1
theorem Busy.thaw{ic:Nat}{aps:List AProm}{hs:Heap}{c:Nat}{ps:List Prom}{kps:Keep}{envs:Env}{ws:World}{kp:Keep}{env:Env}{st:St}{a:Act}{w W:World}(B:Busy C extra nt E ic aps hs c ps kps envs ws kp env st a w)
  {T:Nat->Prop} (hT:∀r,T r->ws.heap.size<=r) (hsz:W.heap.size=w.heap.size) (hos:W.os=w.os) (htp:W.tape=w.tape) (hout:W.output=w.output) (hrow:∀r,r≠c->W.heap[r]? =w.heap[r]?):
  Snap C extra E ⟨kps.no,fun r=>kp.hide r/\¬T r⟩ env (hs.thaw ic st.h) W/\HLe st.h (hs.thaw ic st.h)/\∀i b,(hs.thaw ic st.h).get i=some b->b.wr=true->¬kp.hide (env i).blk:=by
 have R0:=B.snap.rel;have R1:=B.sim.rel;have hss:=B.size;have envO:∀{i b},hs.get i=some b->env i=envs i:=fun{i b} hb=>B.ext i (by simp[Heap.ok,hb])
 -- of an old block that is live
 have old:∀{i b},i≠ic->hs.get i=some b->b≠.dead->(env i).blk<ws.heap.size/\¬kps.hide (env i).blk/\(env i).blk≠c:=by
  intro i b hne hb hd;rw[envO hb];refine⟨R0.lt i b hb,fun x=>R0.hid i b hb hd (.inl x),?_⟩;rw[B.hc];exact R0.disj ic i _ b B.chan hb (Ne.symm hne) rfl hd
 have oldH:∀{i b},i≠ic->hs.get i=some b->b≠.dead->¬kp.hide (env i).blk:=by
  intro i b hne hb hd x;obtain⟨o1,o2,o3⟩:=old hne hb hd;rcases B.hide' _ x with y|y|y
  ·exact o2 y
  ·exact o3 y
  ·omega
 have oldW:∀{i b},i≠ic->hs.get i=some b->b≠.dead->W.heap[(env i).blk]? =ws.heap[(env i).blk]? :=by
  intro i b hne hb hd;obtain⟨o1,o2,o3⟩:=old hne hb hd;rw[hrow _ o3,B.rows _ o1 o2 o3]
 -- of a new one that may be written
 have new:∀{i b},hs.size<=i->st.h.get i=some b->b.wr=true->ws.heap.size<=(env i).blk/\¬kp.hide (env i).blk/\(env i).blk≠c/\b≠.dead:=by
  intro i b hi hb hw;have hd:b≠.dead:=by rintro rfl;cases hw
  have hh:¬kp.hide (env i).blk:=fun x=>R1.hid i b hb hd (.inl x);refine⟨?_,hh,fun e=>hh (by rw[e];exact B.hidec),hd⟩;rcases Nat.lt_or_ge (env i).blk ws.heap.size with x|x
  ·exact absurd (.inr (.inr x)) (R1.kept i b hb hw)
  ·exact x
 have okT:∀i,st.h.ok i->(hs.thaw ic st.h).ok i:=by
  intro i hi;have hlt:=kaA hi;simp only[Heap.ok,Heap.thaw,if_pos hlt];by_cases h2:i<hs.size
  ·rw[if_pos h2];by_cases e:i=ic
   ·rw[if_pos e];rfl
   ·rw[if_neg e,<-B.hle.same i h2];exact hi
  ·rw[if_neg h2];simp only[Heap.ok]at hi;simpa using hi
 have hleT:HLe st.h (hs.thaw ic st.h):=by
  refine⟨Nat.le_refl _,fun i hi=>?_⟩;cases hg:st.h.get i with
  |some b=>have:=okT i (by simp[Heap.ok,hg]);simpa[Heap.ok]using this
  | none =>
   show((hs.thaw ic st.h).get i).isSome=false;cases ht:(hs.thaw ic st.h).get i with
   |none=>rfl
   | some b =>
    exfalso;obtain⟨_,⟨h2,h3⟩|⟨_,b',hb',_⟩⟩:=jcs ht
    ·have hsame:=B.hle.same i h2;rw[hg]at hsame;rcases h3 with⟨rfl,_⟩|⟨_,h3⟩
     ·rw[B.chan]at hsame;cases hsame
     ·rw[h3]at hsame;cases hsame
    ·rw[hg]at hb';cases hb'
 have okS:∀i,hs.ok i->(hs.thaw ic st.h).ok i:=fun i hi=>okT i (B.hle.ok hi);have hR:Rel C (Keep.or ⟨kps.no,fun r=>kp.hide r/\¬T r⟩ extra) env (hs.thaw ic st.h) W:=by
  refine⟨fun i b hi=>?_,fun i b hi=>?_,fun i j b d hi hj hij hw hd=>?_,fun i b hi=>?_,fun i b hi hw x=>?_,fun r x=>?_,fun i b hi hd x=>?_,fun r x=>?_⟩
  ·rw[hsz];obtain⟨_,⟨h2,h3⟩|⟨_,b',hb',_⟩⟩:=jcs hi
   ·rcases h3 with⟨rfl,_⟩|⟨_,h3⟩
    ·rw[envO B.chan];exact Nat.lt_of_lt_of_le (R0.lt _ _ B.chan) hss
    ·rw[envO h3];exact Nat.lt_of_lt_of_le (R0.lt _ _ h3) hss
   ·exact R1.lt i b' hb'
  ·obtain⟨_,⟨h2,h3⟩|⟨hi2,b',hb',e⟩⟩:=jcs hi
   ·rcases h3 with⟨_,rfl⟩|⟨hne,h3⟩
    ·trivial
    ·by_cases hd:b=.dead
     ·subst hd;trivial
     ·have:=oldW hne h3 hd;rw[envO h3]at this|-;exact(R0.blk i b h3).mono B.ext (R0.bel i b h3) this
   ·by_cases hw:b'.wr=true
    ·rw[if_pos hw]at e;subst e;obtain⟨n1,n2,n3,n4⟩:=new hi2 hb' hw;exact(R1.blk i b hb').mono (kam _ _) (R1.bel i b hb') (hrow _ n3)
    ·rw[if_neg hw]at e;subst e;trivial
  ·obtain⟨_,⟨h2,h3⟩|⟨hi2,b',hb',e⟩⟩:=jcs hi
   ·rcases h3 with⟨_,rfl⟩|⟨hne,h3⟩
    ·cases hw
    ·have hbd:b≠.dead:=by rintro rfl;cases hw
     obtain⟨o1,_,_⟩:=old hne h3 hbd;obtain⟨_,⟨k2,k3⟩|⟨hj2,d',hd',e2⟩⟩:=jcs hj
     ·rcases k3 with⟨_,rfl⟩|⟨hnj,k3⟩
      ·exact absurd rfl hd
      ·rw[envO h3,envO k3];exact R0.disj i j b d h3 k3 hij hw hd
     ·by_cases hw2:d'.wr=true
      ·have:=(new hj2 hd' hw2).1;omega
      ·rw[if_neg hw2]at e2;exact absurd e2 hd
   ·by_cases hw1:b'.wr=true
    ·rw[if_pos hw1]at e;subst e;have n1:=(new hi2 hb' hw1).1;obtain⟨_,⟨k2,k3⟩|⟨hj2,d',hd',e2⟩⟩:=jcs hj
     ·rcases k3 with⟨_,rfl⟩|⟨hnj,k3⟩
      ·exact absurd rfl hd
      ·have:=(old hnj k3 hd).1;omega
     ·by_cases hw2:d'.wr=true
      ·rw[if_pos hw2]at e2;subst e2;exact R1.disj i j b d hb' hd' hij hw hd
      ·rw[if_neg hw2]at e2;exact absurd e2 hd
    ·rw[if_neg hw1]at e;subst e;cases hw
  ·obtain⟨_,⟨h2,h3⟩|⟨hi2,b',hb',e⟩⟩:=jcs hi
   ·rcases h3 with⟨_,rfl⟩|⟨hne,h3⟩
    ·trivial
    ·exact kao okS (R0.bel i b h3)
   ·by_cases hw:b'.wr=true
    ·rw[if_pos hw]at e;subst e;exact kao okT (R1.bel i b hb')
    ·rw[if_neg hw]at e;subst e;trivial
  ·obtain⟨_,⟨h2,h3⟩|⟨hi2,b',hb',e⟩⟩:=jcs hi
   ·rcases h3 with⟨_,rfl⟩|⟨hne,h3⟩
    ·cases hw
    ·have hbd:b≠.dead:=by rintro rfl;cases hw
     rw[envO h3]at x;exact R0.kept i b h3 hw x
   ·by_cases hw1:b'.wr=true
    ·rw[if_pos hw1]at e;subst e;obtain⟨n1,n2,_,_⟩:=new hi2 hb' hw1;have:=R0.keepLt _ x;omega
    ·rw[if_neg hw1]at e;subst e;cases hw
  ·rw[hsz];exact Nat.lt_of_lt_of_le (R0.keepLt r x) hss
  ·obtain⟨_,⟨h2,h3⟩|⟨hi2,b',hb',e⟩⟩:=jcs hi
   ·rcases h3 with⟨_,rfl⟩|⟨hne,h3⟩
    ·exact hd rfl
    ·rcases x with x|x
     ·exact oldH hne h3 hd x.1
     ·rw[envO h3]at x;exact R0.hid i b h3 hd (.inr x)
   ·by_cases hw1:b'.wr=true
    ·rw[if_pos hw1]at e;subst e;rcases x with x|x
     ·exact R1.hid i b hb' hd (.inl x.1)
     ·exact R1.hid i b hb' hd (.inr x)
    ·rw[if_neg hw1]at e;exact hd e
  ·rw[hsz];rcases x with x|x
   ·exact R1.hidLt r (.inl x.1)
   ·exact Nat.lt_of_lt_of_le (R0.hidLt r (.inr x)) hss
 have hse:=B.snap.since;have hcw:E.w.heap.size<=ws.heap.size:=hse.size;refine⟨⟨hR,⟨?_,?_,?_,?_,fun r hr he hn=>?_,fun r x=>?_,fun r he x=>?_⟩,B.snap.ext.trans B.snap.hle B.ext,(B.snap.hle.trans B.hle).trans hleT,B.snap.no,B.snap.no'⟩,hleT,fun i b hi hw x=>?_⟩
 ·rw[hsz];omega
 ·rw[hos,B.os,hse.os]
 ·rw[htp,B.tape,hse.tape]
 ·rw[hout,B.output,hse.output]
 ·have hnk:¬kps.hide r:=fun x=>(hse.hide' r he x).elim hn fun y=>by omega
  have hrc:r≠c:=fun e=>R0.kept ic _ B.chan rfl (.inr (by rw[<-B.hc,<-e];exact he));rw[hrow r hrc,B.rows r (by omega) hnk hrc,hse.block r hr he hn]
 ·have y:=hse.hide r x;refine⟨B.hide r y,fun t=>?_⟩;have:=hT r t;have:=R0.hidLt r (.inl y);omega
 ·rcases B.hide' r x.1 with y|y|y
  ·exact hse.hide' r he y
  ·exact absurd (.inr (by rw[<-B.hc,<-y];exact he)) (R0.kept ic _ B.chan rfl)
  ·exact .inr (by omega)
 ·obtain⟨_,⟨h2,h3⟩|⟨hi2,b',hb',e⟩⟩:=jcs hi
  ·rcases h3 with⟨_,rfl⟩|⟨hne,h3⟩
   ·cases hw
   ·exact oldH hne h3 (by rintro rfl;cases hw) x
  ·by_cases hw1:b'.wr=true
   ·exact(new hi2 hb' hw1).2.1 x
   ·rw[if_neg hw1]at e;subst e;cases hw
end
end Go.Ae
namespace Go.Ae
variable {C : Ctx} {h h' : Heap} {v vp : AV} {p : PlanP} {w w' : World} {env : Env} {kp : Keep} {ops : Array Oper} {st : St} {i n m j sz u : Nat} {l : List Int} {s : List (Int × Int)} {prn b f : Int} {cs vs : List AV} {nid : Option Nat} {o : Oper} {P : Program}
open Go.Conc
section
variable {C : Ctx} {extra : Keep} {nt : Nat} {E : Ent}
def jnt(g:Gh)(ch:AV)(dst:Option Nat)(K:Gh->St->Prop)(st:St):Prop:=
 match g with
 |.idle=>False
 | .busy ic aps hs => ch = .chan ic /\ ∀ A p B, aps = A ++ p :: B ->
   (A++B≠[]->K (.busy ic (A++B) hs) (St.put {st with h:=p.land st.h} dst (p.av st.h.size)))/\
   (A++B=[]->K .idle (St.put {st with h:=p.land (hs.thaw ic st.h)} dst (p.av st.h.size)))
theorem jlz{α β:Type}{f:α->β}{l:List α}{A B:List β}{x:β}(h:l.map f=A++x::B):∃A' y B',l=A'++y::B'/\A'.map f=A/\f y=x/\B'.map f=B:=by
 obtain⟨l1,l2,rfl,h1,h2⟩:=List.map_eq_append_iff.1 h;obtain⟨y,B',rfl,h3,h4⟩:=List.map_eq_cons_iff.1 h2;exact⟨l1,y,B',rfl,h1,h3,h4⟩
theorem jjd{b:Frame}{a:Act}{ops:Array Oper}{i:Nat}{rest:List Nat}{k:List Item}{cs:List Frame}{o:Oper}{v:Value}(ho:ops[i]? =some o):
  Conc.served (G (b.atR a (.inRegion ops (i::rest)::k)) cs) v=G (b.atR (a.put o.dst v) (.inRegion ops rest::k)) cs:=by
 have:(b.atR a (.inRegion ops (i::rest)::k)).finish v=b.atR (a.put o.dst v) (.inRegion ops rest::k):=by rw[Frame.finish_atR,ho];rfl
 simp only[Conc.served,G,this]
theorem jsm{g:Gh}{ops:Array Oper}{i:Nat}{o:Oper}{ph:Phase}{kp:Keep}{env:Env}{st:St}{a:Act}{w:World}{K:Gh->St->Prop}(S:GSim C extra nt E g ph kp env st a w)(ho:ops[i]? =some o){dst:Option Nat}{x:AOpd}
  (hl:jan C.P C.inv nt ops o={dst:=dst,op:=.comm 1 [x],guard:=none}) (h:jnt g (x.ev st.t) dst K st):
  OpM C.P ops i (fun ph' kp' a' w'=>∃g' env' st',GSim C extra nt E g' ph' kp' env' st' a' w'/\K g' st') ph kp a w:=by
 obtain⟨t,ch,d,e,z,hop,ht,hz,hx,rfl,hd,hg⟩:=joC hl;have hw:=jdb hg (yielded ops a.tmps);cases g with
 |idle=>exact h.elim
 | busy ic aps hs =>
  obtain⟨hch,h⟩:=h;obtain⟨c0,ps,kps,envs,ws,rfl,B⟩:=S;have hcc:(env ic).blk=c0:=by rw[B.ext ic (by simp[Heap.ok,B.chan]),B.hc]
  have hev:a.eval ch=.chan (some c0):=by
   have:=(B.sim.opd ch x hx).1;rw[hch]at this;simp only[AV.val,hcc]at this;exact this
  have hzr:∀w1:World,(zeroValue e).run C.P w1=.ok (z.val C.lk env) w1:=fun w1=>(jks (w:=w1) (env:=env) C.lk (fun _=>True) hz).1;have run:∀w1,(execOp a.eval o).run C.P w1=.ok (.comm #[rcase c0 (z.val C.lk env)] true (.recv false)) w1/\(execOp a.eval o).events C.P w1 #[]= #[]:=by
   intro w1;have hu:=run_underlying ht w1;constructor
   ·simp only[execOp,hop,Sem.run_bind,hu,Result.andThen_ok,hzr,hev,Sem.run_pure,rcase]
   ·simp only[execOp,hop,Sem.events_bind,hu,Result.evThen_ok,hzr,events_underlying,events_zeroValue,Sem.events_pure]
  intro Fin pr b rest k cs hro hb hk;have step:∀w1,stepG C.P true (G (b.atR a (.inRegion ops (i::rest)::k)) cs) w1=.comm (G (b.atR a (.inRegion ops (i::rest)::k)) cs) #[rcase c0 (z.val C.lk env)] true (.recv false) w1 #[]:=by
   intro w1;obtain⟨h1,h2⟩:=run w1;rw[jo4 ho hw (fun c' e=>by rw[hop]at e;cases e) hb h1];simp only[evs,h2,seen_none]
  have hne:ps≠[]:=by rw[B.hps];intro e;exact B.ne (List.map_eq_nil_iff.1 e)
  by_cases hp:pr
  ·exact .inr hp
  refine .inl (.recv (z.val C.lk env) rfl hne (fun kp1 w1 r=>step w1) fun A Φ B' v T kp1 w1 s r e r1 hΦ hT=>?_);rw[jjd ho];rw[B.hps]at e;obtain⟨A1,p,B1,rfl,hA,rfl,hB⟩:=jlz e;have BB:=B.rely r1;have hpok:p.Ok:=B.ok p (by simp);obtain⟨hk1,hk2⟩:=h A1 p B1 rfl;have hrow:∀q,q≠c0->(w1.setChan c0 0 #[] false s r false).heap[q]? =w1.heap[q]? :=fun q hq=>by
   simp only[World.setChan];exact Array.getElem?_setIfInBounds_ne (Ne.symm hq)
  have hsz:(w1.setChan c0 0 #[] false s r false).heap.size=w1.heap.size:=by simp[World.setChan]
  have hTB:∀q,T q->ws.heap.size<=q:=by
   intro q hq;obtain⟨e0,_,hm⟩:=hΦ;cases hb':p.blk with
   |none=>rw[hb']at hm;exact absurd hq (hm q)
   |some vs=>rw[hb']at hm;rw[(hm.2.2.1 q).1 hq];exact hm.1
  by_cases hlast:A1++B1=[]
  ·-- the last one
   have hAB:A++B'=[]:=by rw[<-hA,<-hB];obtain⟨h1,h2⟩:=List.append_eq_nil_iff.1 hlast;rw[h1,h2];rfl
   obtain⟨hS,hL,hwrT⟩:=BB.thaw (W:=w1.setChan c0 0 #[] false s r false) hTB hsz rfl rfl rfl hrow;obtain⟨env',R',X',L',hv,hbel⟩:=hS.rel.land hpok hΦ fun q hq=>by
    obtain⟨t1,t2,t3⟩:=hT q hq;refine⟨by rw[hsz];exact t1,fun y=>?_,fun i b hi hwr e=>hwrT i b hi hwr (by rw[e];exact t2),hrow q t3⟩;rcases y with y|y
    ·exact y.2 hq
    ·have:=BB.snap.rel.hidLt q (.inr y);have:=hTB q hq;omega
   have s2:=BB.sim.put' hd (h':=p.land (hs.thaw ic st.h)) R' (fun j hj=>X' j (hL.ok hj)) (hL.trans L').grow hbel;rw[size_thaw]at hv hbel s2;rw[<-hv]at s2;have hS2:Snap C extra E _ env' (p.land (hs.thaw ic st.h)) _:=hS.keepJ (kaI _ _ _) R' X' L';have:=hk none ⟨kps.no,fun q=>kp1.hide q/\¬T q⟩ (a.put o.dst v) _ ⟨.idle,env',_,⟨rfl,by rw[put_h];exact hS2,s2⟩,hk2 hlast⟩;have j:=this.resolve_right hp;have j2:=j.idx c0 rfl;rw[hAB];have hke:(Keep.both ⟨kps.no,fun q=>kp1.hide q/\¬T q⟩)=kp1.take T (([]:List Prom)=[]):=kaV (fun q=>by simp[Keep.both,Keep.take]) (fun q=>by simp[Keep.both,Keep.take])
   rw[hke]at j2;exact j2
  ·have hAB:A++B'≠[]:=by
    rw[<-hA,<-hB];intro h0;obtain⟨h1,h2⟩:=List.append_eq_nil_iff.1 h0;exact hlast (by rw[List.map_eq_nil_iff.1 h1,List.map_eq_nil_iff.1 h2];rfl)
   have hno:∀q,(kp1.take T (A++B'=[])).no q↔kp1.no q/\¬T q:=fun q=>by simp[Keep.take,hAB]
   have hhi:∀q,(kp1.take T (A++B'=[])).hide q↔kp1.hide q/\¬T q:=fun q=>by simp[Keep.take]
   have R1:Rel C ((kp1.take T (A++B'=[])).or (extra.below ws.heap.size)) env st.h (w1.setChan c0 0 #[] false s r false):=
    BB.sim.rel.less (fun q y=>y.imp (fun y=>((hno q).1 y).1) id) (fun q y=>y.imp (fun y=>((hhi q).1 y).1) id) hsz fun q _ hn=>hrow q fun e=>hn (.inl (by rw[e];exact BB.hidec))
   obtain⟨env',R',X',L',hv,hbel⟩:=R1.land hpok hΦ fun q hq=>by
    obtain⟨t1,t2,t3⟩:=hT q hq;refine⟨by rw[hsz];exact t1,fun y=>?_,fun i b hi hwr e=>BB.sim.rel.hid i b hi (by rintro rfl;cases hwr) (.inl (by rw[e];exact t2)),hrow q t3⟩;rcases y with y|y
    ·exact((hhi q).1 y).2 hq
    ·have:=BB.snap.rel.hidLt q (.inr y);have:=hTB q hq;omega
   have s2:=BB.sim.put' hd (h':=p.land st.h) R' X' L'.grow hbel;rw[<-hv]at s2;have hg':GSim C extra nt E (.busy ic (A1++B1) hs) (some (c0,A++B')) (kp1.take T (A++B'=[])) env' (St.put {st with h:=p.land st.h} o.dst (p.av st.h.size)) (a.put o.dst v) (w1.setChan c0 0 #[] false s r false):=
    ⟨_,_,kps,envs,ws,rfl,BB.snap,s2,hlast,BB.chan,BB.hc,by rw[List.map_append,hA,hB],fun q hq=>B.ok q (by
      rcases List.mem_append.1 hq with hq|hq
      ·simp[hq]
      ·simp[hq]),
     BB.ext.trans BB.hle X',by rw[put_h];exact BB.hle.trans L',fun q hq=>(hno q).2 ⟨BB.no q hq,fun t=>by have:=hTB q t;omega⟩,(hhi _).2 ⟨BB.hidec,fun t=>(hT _ t).2.2 rfl⟩,
     fun q y=>(hhi q).2 ⟨BB.hide q y,fun t=>by have:=hTB q t;have:=BB.snap.rel.hidLt q (.inl y);omega⟩,fun q y=>BB.hide' q ((hhi q).1 y).1,
     fun q hq hn hc=>by rw[hrow q hc,BB.rows q hq hn hc],by rw[hsz];exact BB.size,BB.os,BB.tape,BB.output⟩
   exact(hk _ _ _ _ ⟨_,env',_,hg',hk1 hlast⟩).resolve_right hp
end
end Go.Ae
namespace Go.Ae
variable {C : Ctx} {h h' : Heap} {v vp : AV} {p : PlanP} {w w' : World} {env : Env} {kp : Keep} {ops : Array Oper} {st : St} {i n m j sz u : Nat} {l : List Int} {s : List (Int × Int)} {prn b f : Int} {cs vs : List AV} {nid : Option Nat} {o : Oper} {P : Program}
open Go.Conc
def WM(C:Ctx)(nt:Nat)(ac:ACode)(Q:Out->Gh->St->Prop)(g:Gh)(st:St):Prop:=
 ∀(c:Code),jad C.P C.inv nt c=ac->∀extra E ph kp env a w,GSim C extra nt E g ph kp env st a w->
  WpM C.P c (fun o ph' kp' a' w'=>∃g' env' st',GSim C extra nt E g' ph' kp' env' st' a' w'/\Q o g' st') ph kp a w
def WMo(C:Ctx)(nt:Nat)(aops:List AOper)(K:Gh->St->Prop)(g:Gh)(st:St):Prop:=
 ∀(ops:Array Oper) (k:Nat),k<=ops.size->(ops.toList.drop k).map (jan C.P C.inv nt ops)=aops->∀extra E ph kp env a w,GSim C extra nt E g ph kp env st a w->
  OpsM C.P ops (List.range' k (ops.size-k)) (fun ph' kp' a' w'=>∃g' env' st',GSim C extra nt E g' ph' kp' env' st' a' w'/\K g' st') ph kp a w
section
variable {C : Ctx} {nt : Nat} {Q Q' : Out -> Gh -> St -> Prop} {g : Gh} {st : St}
theorem kaK{ac:ACode}(h:∀ph,wp (C.at ph) nt none ac (fun o st'=>Q o g st') st):WM C nt ac Q g st:=by
 intro c hc extra E ph kp env a w S;subst hc;exact jrl S (h ph)
theorem jqk{inv:FuncId->Option Nat}{c:Code}{x y:ACode}(h:jad P inv nt c=.seq x y):∃a b,c=.seq a b/\jad P inv nt a=x/\jad P inv nt b=y:=by
 cases c with
 |seq a b=>simp only[jad,ACode.seq.injEq]at h;exact⟨a,b,rfl,h.1,h.2⟩
 |region id ops d=>cases d<;>simp only[jad]at h<;>(repeat' split at h)<;>cases h
 |cond c a b=>simp only[jad]at h;split at h<;>cases h
 |rangeFunc f ps a b=>simp only[jad]at h;(repeat' split at h)<;>cases h
 |_=>simp[jad]at h
theorem jql{inv:FuncId->Option Nat}{c:Code}{id:Nat}{x:ACode}(h:jad P inv nt c=.block id x):∃a,c=.block id a/\jad P inv nt a=x:=by
 cases c with
 |block i a=>simp only[jad,ACode.block.injEq]at h;obtain⟨rfl,h⟩:=h;exact⟨a,rfl,h⟩
 |region id ops d=>cases d<;>simp only[jad]at h<;>(repeat' split at h)<;>cases h
 |cond c a b=>simp only[jad]at h;split at h<;>cases h
 |rangeFunc f ps a b=>simp only[jad]at h;(repeat' split at h)<;>cases h
 |_=>simp[jad]at h
theorem jro{inv:FuncId->Option Nat}{c:Code}{x:ACode}(h:jad P inv nt c=.loop x):∃a,c=.loop a/\jad P inv nt a=x:=by
 cases c with
 |loop a=>simp only[jad,ACode.loop.injEq]at h;exact⟨a,rfl,h⟩
 |region id ops d=>cases d<;>simp only[jad]at h<;>(repeat' split at h)<;>cases h
 |cond c a b=>simp only[jad]at h;split at h<;>cases h
 |rangeFunc f ps a b=>simp only[jad]at h;(repeat' split at h)<;>cases h
 |_=>simp[jad]at h
theorem jje{inv:FuncId->Option Nat}{c:Code}{l:List AOper}(h:jad P inv nt c=.region l):∃id ops,c=.region id ops false/\ops.toList.map (jan P inv nt ops)=l:=by
 cases c with
 |region id ops d=>
  cases d with
  |false=>simp only[jad,ACode.region.injEq]at h;exact⟨id,ops,rfl,h⟩
  |true=>simp only[jad]at h;(repeat' split at h)<;>cases h
 |cond c a b=>simp only[jad]at h;split at h<;>cases h
 |rangeFunc f ps a b=>simp only[jad]at h;(repeat' split at h)<;>cases h
 |_=>simp[jad]at h
theorem kaZ{x y:ACode}(h:WM C nt x (fun o g' st'=>match o with|.normal=>WM C nt y Q g' st'|o=>Q o g' st') g st):WM C nt (.seq x y) Q g st:=by
 intro c hc extra E ph kp env a w S;obtain⟨x',y',rfl,hx,hy⟩:=jqk hc;refine jsK (jic (h x' hx extra E ph kp env a w S) ?_);rintro o ph' kp' a' w' ⟨g',env',st',S',q⟩;cases o with
 |normal=>exact q y' hy extra E ph' kp' env' a' w' S'
 |exit id=>exact⟨g',env',st',S',q⟩
 |ret=>exact⟨g',env',st',S',q⟩
theorem kaX{id:Nat}{x:ACode}(h:WM C nt x (fun o g' st'=>match o with|.exit id'=>if id'=id then Q .normal g' st' else Q (.exit id') g' st'|o=>Q o g' st') g st):WM C nt (.block id x) Q g st:=by
 intro c hc extra E ph kp env a w S;obtain⟨x',rfl,hx⟩:=jql hc;refine jrk (jic (h x' hx extra E ph kp env a w S) ?_);rintro o ph' kp' a' w' ⟨g',env',st',S',q⟩;cases o with
 |normal=>exact⟨g',env',st',S',q⟩
 |ret=>exact⟨g',env',st',S',q⟩
 |exit id'=>
  dsimp only at q|-;by_cases e:id'=id
  ·rw[if_pos e]at q|-;exact⟨g',env',st',S',q⟩
  ·rw[if_neg e]at q|-;exact⟨g',env',st',S',q⟩
theorem kbB{x:ACode}(I:Nat->Gh->St->Prop){j0:Nat}(h0:I j0 g st)(round:∀j g' st',I j g' st'->WM C nt x (fun o g2 st2=>match o with|.normal=>∃i,i<j/\I i g2 st2|o=>Q o g2 st2) g' st'):WM C nt (.loop x) Q g st:=by
 intro c hc extra E ph kp env a w S;obtain⟨x',rfl,hx⟩:=jro hc;refine jsl (fun j ph kp a w=>∃g' env' st',GSim C extra nt E g' ph kp env' st' a w/\I j g' st') ⟨g,env,st,S,h0⟩ ?_;rintro j ph kp a w ⟨g',env',st',S',hI⟩;refine jic (round j g' st' hI x' hx extra E ph kp env' a w S') ?_;rintro o ph' kp' a' w' ⟨g2,env2,st2,S2,q⟩;cases o with
 |normal=>obtain⟨i,hi,q⟩:=q;exact⟨i,hi,g2,env2,st2,S2,q⟩
 |exit id=>exact⟨g2,env2,st2,S2,q⟩
 |ret=>exact⟨g2,env2,st2,S2,q⟩
theorem ka4{l:List AOper}(h:WMo C nt l (Q .normal) g st):WM C nt (.region l) Q g st:=by
 intro c hc extra E ph kp env a w S;obtain⟨id,ops,rfl,hl⟩:=jje hc;refine jqi ?_;rw[List.range_eq_range'];exact h ops 0 (Nat.zero_le _) (by simpa using hl) extra E ph kp env a w S
theorem kbj{K:Gh->St->Prop}(h:K g st):WMo C nt [] K g st:=by
 intro ops k hk hl extra E ph kp env a w S;have:ops.size-k=0:=by
  have:=congrArg List.length hl;simp at this;omega
 rw[this];exact jsL ⟨g,env,st,S,h⟩
theorem jey{k:Nat}{f:Oper->AOper}{o:AOper}{os:List AOper}(h:(ops.toList.drop k).map f=o::os):∃x,ops[k]? =some x/\f x=o/\(ops.toList.drop (k+1)).map f=os/\k+1<=ops.size/\ops.size-k=(ops.size-(k+1))+1:=by
 have hlt:k<ops.size:=by
  rcases Nat.lt_or_ge k ops.size with x|x
  ·exact x
  ·rw[List.drop_of_length_le (by simpa using x)]at h;cases h
 rw[List.drop_eq_getElem_cons (by simpa using hlt),List.map_cons,List.cons.injEq]at h;exact⟨ops[k],Array.getElem?_eq_getElem hlt,by simpa using h.1,h.2,hlt,by omega⟩
theorem kbG{K:Gh->St->Prop}{o:AOper}{os:List AOper}(hg:o.guard=none)(h:∀ph,wpOp (C.at ph) none o (fun st'=>WMo C nt os K g st') st):WMo C nt (o::os) K g st:=by
 intro ops k hk hl extra E ph kp env a w S;obtain⟨x,hx,he,htl,hk1,hsz⟩:=jey hl;rw[hsz,List.range'_succ];refine jmL ?_;have hw:Region.wanted x (yielded ops a.tmps)=true:=by
  rcases jco (P:=C.P) (inv:=C.inv) (nt:=nt) (ops:=ops) (o:=x)with⟨s,hs⟩|⟨g',hg',hge,_,_⟩
  ·exfalso;rw[<-he,hs]at h;exact jhx (h ph)
  ·rw[he,hg]at hge;subst hge;refine jdb ?_ _;cases hgx:x.guard with
   |none=>rfl
   |some jw=>
    obtain⟨j,want⟩:=jw;rw[hgx]at hg';simp only[jbN]at hg';split at hg'<;>cases hg'
 refine jid (jrm S hx hw (by rw[he];exact h ph)) ?_;rintro ph' kp' a' w' ⟨g',env',st',S',q⟩;exact q ops (k+1) hk1 htl extra E ph' kp' env' a' w' S'
theorem kbR{K:Gh->St->Prop}{dst:Option Nat}{f:AOpd}{xs:List AOpd}{os:List AOper}(h:wpGo C g (f.ev st.t) (xs.map (·.ev st.t)) dst (WMo C nt os K) st):WMo C nt ({dst:=dst,op:=.comm 0 (f::xs),guard:=none}::os) K g st:=by
 intro ops k hk hl extra E ph kp env a w S;obtain⟨x,hx,he,htl,hk1,hsz⟩:=jey hl;rw[hsz,List.range'_succ];refine jmL (jid (om_go S hx he h) ?_);rintro ph' kp' a' w' ⟨g',env',st',S',q⟩;exact q ops (k+1) hk1 htl extra E ph' kp' env' a' w' S'
theorem kbD{K:Gh->St->Prop}{dst:Option Nat}{x:AOpd}{os:List AOper}(h:jnt g (x.ev st.t) dst (WMo C nt os K) st):WMo C nt ({dst:=dst,op:=.comm 1 [x],guard:=none}::os) K g st:=by
 intro ops k hk hl extra E ph kp env a w S;obtain⟨o,hx,he,htl,hk1,hsz⟩:=jey hl;rw[hsz,List.range'_succ];refine jmL (jid (jsm S hx he h) ?_);rintro ph' kp' a' w' ⟨g',env',st',S',q⟩;exact q ops (k+1) hk1 htl extra E ph' kp' env' a' w' S'
theorem joD{gi:Nat}{b:ABody}(hbody:C.body gi=some b){args:List AV}(hargs:args.length<=b.ntmps){h:Heap}{Post:AV->Heap->Prop}
  (hwp:WM C b.ntmps b.code (fun o g st=>g=.idle/\retO b.res Post o st) .idle ⟨argT args,h,[]⟩):ACalls C.main0 gi args h Post:=by
 unfold Ctx.body jjg at hbody;split at hbody
 ·rename_i fn hf;split at hbody
  ·cases hbody
  ·rename_i hname;split at hbody
   ·rename_i c rs hc hrs;cases hbody;refine⟨?_,?_⟩
    ·intro args w;show(callFunc (C.lk gi) args).run C.P w=.ok (.enter (C.lk gi) args) w/\∀es,(callFunc (C.lk gi) args).events C.P w es=es;refine⟨by simp[callFunc,hf,hname,hc,mark],fun es=>?_⟩;simp[callFunc,Sem.events_bind,hf,hname,hc,Result.evThen]
    ·intro extra kp env w R0 hbel J hJ cs hk;have R:Rel C (kp.or extra) env h w:=⟨R0.1,R0.2,R0.3,R0.4,R0.5,R0.6,R0.7,R0.8⟩;have S:Sim C (kp.or extra) fn.ntmps env ⟨argT args,h,[]⟩ {tmps:=(args.map (AV.val C.lk env)).toArray++Array.replicate (fn.ntmps-(args.map (AV.val C.lk env)).toArray.size) undef,defers:=[]} w:=by
      have hsz:(args.map (AV.val C.lk env)).toArray.size=args.length:=by simp
      refine⟨?_,?_,?_,rfl,by simp,R⟩
      ·have:args.length<=fn.ntmps:=hargs;simp;omega
      ·intro s;rw[Array.getD_eq_getD_getElem?,Array.getElem?_append,hsz];simp only[argT,List.getD_eq_getElem?_getD];by_cases hs:s<args.length
       ·rw[if_pos hs];simp[hs]
       ·rw[if_neg hs,List.getElem?_eq_none (by omega)];simp only[Option.getD_none,Array.getElem?_replicate];split<;>rfl
      ·intro s;simp only[argT,List.getD_eq_getElem?_getD];cases hs:args[s]? with
       |none=>trivial
       |some v=>exact hbel v (List.mem_of_getElem? hs)
     let b:Frame:={(default:Frame)with fn:=C.lk gi,kind:=.normal,roundOf:=none}
     have henter:Frame.enter C.P (C.lk gi) (args.map (AV.val C.lk env)).toArray .normal=
       b.atR {tmps:=(args.map (AV.val C.lk env)).toArray++Array.replicate (fn.ntmps-(args.map (AV.val C.lk env)).toArray.size) undef,defers:=[]} [.code c]:=by
      simp[Frame.enter,Frame.atR,hf,hc,b]
     show J kp (G (Frame.enter C.P (C.lk gi) (args.map (AV.val C.lk env)).toArray .normal) cs) w;rw[henter];obtain⟨Fin,p,rfl⟩:=hJ;have hJ:C.main0.fam (MJ0 C.P Fin p):=⟨Fin,p,rfl⟩;have HS:GSim C extra fn.ntmps ⟨kp,env,h,w⟩ .idle none kp env ⟨argT args,h,[]⟩ {tmps:=(args.map (AV.val C.lk env)).toArray++Array.replicate (fn.ntmps-(args.map (AV.val C.lk env)).toArray.size) undef,defers:=[]} w:=
      ⟨rfl,⟨R,⟨Nat.le_refl _,rfl,rfl,rfl,fun _ _ _ _=>rfl,fun _ h=>h,fun _ _ h=>.inl h⟩,kam _ _,kax _,fun _ h=>h,fun _ h=>.inl h⟩,S⟩
     have H:=hwp c rfl extra ⟨kp,env,h,w⟩ none kp env _ w HS;refine H Fin p b [] cs rfl (by simp[b]) ?_;rintro o ph' kp' a' w' ⟨g',env',st',S',rfl,hret⟩;obtain⟨rfl,hSn,hs⟩:=S';have hKJ:KeepJ kp extra w kp' w':=⟨hSn.since.size,hSn.since.os,hSn.since.tape,hSn.since.output,hSn.since.block,hSn.no,hSn.no',hSn.since.hide,hSn.since.hide'⟩;have hX:Ext h env env':=hSn.ext;have hL:HLe h st'.h:=hSn.hle;have s0:Sim C.main0 (kp'.or extra) fn.ntmps env' st' a' w':=jly (ph:=none) hs;have fin:∀todo,(∃h1 vs,jbb st'.h st'.m=some h1/\resA st'.t h1 rs=some vs/\Post (retA vs) h1)->MJ0 C.P Fin p kp' (G {b.atR a' todo with mode:=.returning} cs) w':=by
      rintro todo ⟨h1,vs,hcm,hres,hP⟩;refine jen (C:=C.main0) hJ st'.m rfl s0.defers s0.rel hcm fun kp1 w1 R1 K1=>?_;have hl1:=jdW _ _ _ hcm;have hbel1:∀s,(st'.t s).bel h1.ok:=fun s=>bel_mono (fun i hi=>hl1.ok hi) _ (s0.bel s);have q:=jbR (C:=C.main0) (tmps:=a'.tmps) R1 s0.tmps hbel1 hrs hres;refine hk kp1 ((retA vs).val C.lk env') w1 _ ⟨env',_,h1,rfl,hP,R1,hKJ.trans K1,hX,hL.trans hl1,q.2⟩ ⟨rfl,rfl,rfl,rfl,fn,hf,fun kp2 w2 r2=>?_⟩;have R2:=R1.rely r2;exact⟨(jbR (C:=C.main0) (tmps:=a'.tmps) R2 s0.tmps hbel1 hrs hres).1,fun e he=>(jeP (C:=C.main0) (tmps:=a'.tmps) R2 s0.tmps hbel1 hrs hres e he).part⟩
     have un:∀{o},(∀id,o≠.exit id)->retO rs Post o st'->∃h1 vs,jbb st'.h st'.m=some h1/\resA st'.t h1 rs=some vs/\Post (retA vs) h1:=by
      intro o ho hr;have hr':match jbb st'.h st'.m with
       |some h1=>match resA st'.t h1 rs with
        |some vs=>Post (retA vs) h1
        |none=>False
       |none=>False:=by
       cases o with
       |exit id=>exact absurd rfl (ho id)
       |normal=>exact hr
       |ret=>exact hr
      split at hr'
      ·rename_i h1 e1;split at hr'
       ·rename_i vs e2;exact⟨h1,vs,e1,e2,hr'⟩
       ·exact hr'.elim
      ·exact hr'.elim
     cases o with
     |normal=>exact jeC.ctl rfl rfl (fun _=>jo3 rfl) (fin [] (un (by intro id h;cases h) hret))
     |ret=>exact fun k2=>jeC.ctl rfl rfl (fun _=>jry rfl) (fin _ (un (by intro id h;cases h) hret))
     |exit id=>exact hret.elim
   ·cases hbody
 ·cases hbody
end
end Go.Ae
namespace Go.Ae
variable {C : Ctx} {h h' : Heap} {v vp : AV} {p : PlanP} {w w' : World} {env : Env} {kp : Keep} {ops : Array Oper} {st : St} {i n m j sz u : Nat} {l : List Int} {s : List (Int × Int)} {prn b f : Int} {cs vs : List AV} {nid : Option Nat} {o : Oper} {P : Program}
open Go.Conc
structure WIn (C:Ctx) (nt:Nat) (ic c B:Nat) (kp:Keep) (env:Env) (st:St) (a:Act) (w:World) (b:Frame) (cs:List Frame):Prop where
 sim:Sim C (kp.or kaq) nt env st a w
 ok:st.h.ok ic
 hc:(env ic).blk=c
 no:∀r,r<B->kp.no r
 ro:b.roundOf=none
 kind:b.kind≠.early
 quit:∀a':Act,a'.defers=[]->∃n,QuitsIn C.P n (G (b.atR a' []) cs)
def WW(C:Ctx)(p:AProm)(ic nt:Nat)(ac:ACode)(st:St):Prop:=
 ∀code,jad C.P C.inv nt code=ac->∀c B kp env a w b cs,WIn C nt ic c B kp env st a w b cs->JW C.P c (p.prom C.lk B) kp (G (b.atR a [.code code]) cs) w
def WWo(C:Ctx)(p:AProm)(ic nt:Nat)(aops:List AOper)(st:St):Prop:=
 ∀(ops:Array Oper) (k:Nat),k<=ops.size->(ops.toList.drop k).map (jan C.P C.inv nt ops)=aops->∀c B kp env a w b cs,WIn C nt ic c B kp env st a w b cs->
  JW C.P c (p.prom C.lk B) kp (G (b.atR a [.inRegion ops (List.range' k (ops.size-k))]) cs) w
def jrH(p:AProm)(ic:Nat)(x y:AOpd)(st:St):Prop:=
 st.m=[]/\x.ev st.t=.chan ic/\∃n,y.ev st.t=p.av n/\∀vs,p.blk=some vs->∃u,st.h.get n=some (.cells vs true u)
section
variable {C : Ctx} {p : AProm} {ic nt : Nat} {st : St}
theorem jnu{c:Nat}{Φ:Prom}{keep:Keep}{a:Act}(h:Sim C keep nt env st a w):Sim (C.work c Φ) keep nt env st a w:=⟨h.size,h.tmps,h.bel,h.defers,h.marks,h.rel.1,h.rel.2,h.rel.3,h.rel.4,h.rel.5,h.rel.6,h.rel.7,h.rel.8⟩
theorem jmM{c:Nat}{Φ:Prom}{keep:Keep}{a:Act}(h:Sim (C.work c Φ) keep nt env st a w):Sim C keep nt env st a w:=⟨h.size,h.tmps,h.bel,h.defers,h.marks,h.rel.1,h.rel.2,h.rel.3,h.rel.4,h.rel.5,h.rel.6,h.rel.7,h.rel.8⟩
theorem WIn.far{c B:Nat}{Φ:Prom}{kp':Keep}{env':Env}{st':St}{a a':Act}{b:Frame}{cs:List Frame}(I:WIn C nt ic c B kp env st a w b cs)(F:Far (C.work c Φ) kaq nt kp env st w kp' env' st' a' w'):WIn C nt ic c B kp' env' st' a' w' b cs:=
 ⟨jmM F.sim,F.grow.same _ I.ok,by rw[F.ext ic I.ok];exact I.hc,fun r hr=>F.keepJ.no r (I.no r hr),I.ro,I.kind,I.quit⟩
theorem kbK{x y:ACode}(h:∀c Φ,wp (C.work c Φ) nt none x (fun o st'=>o=.normal/\WW C p ic nt y st') st):WW C p ic nt (.seq x y) st:=by
 intro code hcode c B kp env a w b cs I;obtain⟨x',y',rfl,hx,hy⟩:=jqk hcode;have low:jad (C.work c (p.prom C.lk B)).P (C.work c (p.prom C.lk B)).inv nt x'=x:=hx;refine(jfi C.P c (p.prom C.lk B)).ctl rfl rfl (fun _=>jo0) ?_;have H:=jeA (C:=C.work c (p.prom C.lk B)) (extra:=kaq) (nt:=nt) default none (jcj _ none) (jcN _ none) x' (fun o st'=>o=.normal/\WW C p ic nt y st') kp env st a w (by rw[low];exact h c _) (jnu I.sim) (by intro l hl;cases hl);refine H _ (.inl rfl) b [.code y'] cs I.ro I.kind ?_;rintro o kp' a' w' ⟨env',st',F,_,_,rfl,hW⟩;exact hW y' hy c B kp' env' a' w' b cs (I.far F)
theorem kbw{l:List AOper}(h:WWo C p ic nt l st):WW C p ic nt (.region l) st:=by
 intro code hcode c B kp env a w b cs I;obtain⟨id,ops,rfl,hl⟩:=jje hcode;refine(jfi C.P c (p.prom C.lk B)).ctl rfl rfl (fun _=>jhs) ?_;rw[List.range_eq_range'];exact h ops 0 (Nat.zero_le _) (by simpa using hl) c B kp env a w b cs I
theorem jqm{x:Oper}{o:AOper}{C':Ctx}{K:St->Prop}(he:jan C'.P C'.inv nt ops x=o)(hg:o.guard=none)(h:wpOp C' nid o K st)(y:Nat->Option Bool):Region.wanted x y=true:=by
 rcases jco (P:=C'.P) (inv:=C'.inv) (nt:=nt) (ops:=ops) (o:=x)with⟨s,hs⟩|⟨g',hg',hge,_,_⟩
 ·exfalso;rw[<-he,hs]at h;exact jhx h
 ·rw[he,hg]at hge;subst hge;refine jdb ?_ _;cases hgx:x.guard with
  |none=>rfl
  |some jw=>
   obtain⟨j,want⟩:=jw;rw[hgx]at hg';simp only[jbN]at hg';split at hg'<;>cases hg'
theorem kaT{o:AOper}{os:List AOper}(hg:o.guard=none)(h:∀c Φ,wpOp (C.work c Φ) none o (fun st'=>WWo C p ic nt os st') st):WWo C p ic nt (o::os) st:=by
 intro ops k hk hl c B kp env a w b cs I;obtain⟨x,hx,he,htl,hk1,hsz⟩:=jey hl;rw[hsz,List.range'_succ];have he':jan (C.work c (p.prom C.lk B)).P (C.work c (p.prom C.lk B)).inv nt ops x=o:=he;have hw:=jqm (C':=C.work c (p.prom C.lk B)) he' hg (h c _) (yielded ops a.tmps);have H:=jfv (C:=C.work c (p.prom C.lk B)) (extra:=kaq) (jnu I.sim) none hx hw he' (h c _);refine H _ (.inl rfl) b _ [] cs I.ro I.kind ?_;rintro kp' a' w' ⟨env',st',F,_,_,q⟩;exact q ops (k+1) hk1 htl c B kp' env' a' w' b cs (I.far F)
theorem joE{ops:Array Oper}{o:Oper}{dst:Option Nat}{x y:AOpd}(h:jan C.P C.inv nt ops o={dst:=dst,op:=.comm 2 [x,y],guard:=none}):
  ∃ch v,o.op=.send ch v/\lowerOpd C.inv ch=some x/\lowerOpd C.inv v=some y/\o.dst=dst/\o.guard=none:=by
 unfold jan at h;split at h
 ·rename_i aop g h1 h2 h3;simp only[AOper.mk.injEq]at h;obtain⟨hd,rfl,rfl⟩:=h;have hg:o.guard=none:=by
   cases hg:o.guard with
   |none=>rfl
   |some jw=>
    obtain⟨j,want⟩:=jw;rw[hg]at h3;simp only[jbN]at h3;split at h3<;>cases h3
  cases hop:o.op with
  |send ch v=>
   rw[hop]at h1;simp only[lowerOp]at h1;split at h1
   ·rename_i c' x' hc hx;cases h1;exact⟨ch,v,rfl,hc,hx,hd,hg⟩
   ·cases h1
  | call c =>
   exfalso;rw[hop]at h1;have h1':ja8 C.P C.inv c=some (.comm 2 [x,y]):=h1;unfold ja8 at h1';split at h1'
   ·split at h1'
    ·simp only[Option.map_eq_some_iff]at h1';obtain⟨_,_,h1'⟩:=h1';cases h1'
    ·unfold ja2 at h1'
     repeat' split at h1'
     all_goals first
      |(cases h1';done)
      |(simp only[Option.map_eq_some_iff]at h1';obtain⟨_,_,h1'⟩:=h1';cases h1';done)
    ·cases h1'
   ·cases h1'
  |makeFunc fn x y=>
   exfalso;rw[hop]at h1;cases fn<;>simp only[lowerOp]at h1;all_goals first|(cases h1;done)|((repeat' split at h1)<;>cases h1;done)
  |makeMap _ r=>exfalso;rw[hop]at h1;cases r<;>simp only[lowerOp,lowerMap]at h1<;>(repeat' split at h1)<;>cases h1
  |mapUpdate _ _ _ _=>exfalso;rw[hop]at h1;simp only[lowerOp,lowerMap]at h1;(repeat' split at h1)<;>first|(cases h1;done)|(simp only[Option.map_eq_some_iff]at h1;obtain⟨_,_,h1⟩:=h1;cases h1;done)
  |insert _ _ _ _=>exfalso;rw[hop]at h1;simp only[lowerOp,lowerMap]at h1;(repeat' split at h1)<;>first|(cases h1;done)|(simp only[Option.map_eq_some_iff]at h1;obtain⟨_,_,h1⟩:=h1;cases h1;done)
  |lookup _ _ _ _=>exfalso;rw[hop]at h1;simp only[lowerOp,lowerMap]at h1;(repeat' split at h1)<;>first|(cases h1;done)|(simp only[Option.map_eq_some_iff]at h1;obtain⟨_,_,h1⟩:=h1;cases h1;done)
  | _ =>
   exfalso;rw[hop]at h1
   first
    |(simp only[lowerOp]at h1;(repeat' split at h1)<;>first|(cases h1;done)|(simp only[Option.map_eq_some_iff]at h1;obtain⟨_,_,h1⟩:=h1;cases h1;done))
    |(unfold lowerOp at h1;simp only[jbD,jaI]at h1;(repeat' split at h1)<;>first|(cases h1;done)|(simp only[Option.map_eq_some_iff]at h1;obtain⟨_,_,h1⟩:=h1;cases h1;done))
 ·cases h
theorem joF(hp:p.Ok){ops:Array Oper}{i:Nat}{o:Oper}{dst:Option Nat}{x y:AOpd}(ho:ops[i]? =some o)(hl:jan C.P C.inv nt ops o={dst:=dst,op:=.comm 2 [x,y],guard:=none})(hS:jrH p ic x y st)
  {c B:Nat} {kp:Keep} {env:Env} {a:Act} {w:World} {b:Frame} {cs:List Frame} (I:WIn C nt ic c B kp env st a w b cs):JW C.P c (p.prom C.lk B) kp (G (b.atR a [.inRegion ops [i]]) cs) w:=by
 obtain⟨ch,v,hop,hx,hy,rfl,hg⟩:=joE hl;obtain⟨hm,hch,n,hv,hblk⟩:=hS;have hw:=jdb hg (yielded ops a.tmps);have hev:a.eval ch=.chan (some c):=by
  have:=(I.sim.opd ch x hx).1;rw[hch]at this;simp only[AV.val,I.hc]at this;exact this
 have hvv:a.eval v=(p.av n).val C.lk env:=by rw[(I.sim.opd v y hy).1,hv]
 have hd0:a.defers=[]:=by rw[I.sim.defers,hm];rfl
 have step:∀w1,stepG C.P false (G (b.atR a [.inRegion ops [i]]) cs) w1=.comm (G (b.atR a [.inRegion ops [i]]) cs) #[scase c ((p.av n).val C.lk env) (.tuple #[])] true .send w1 #[]:=by
  intro w1;have h1:(execOp a.eval o).run C.P w1=.ok (.comm #[scase c ((p.av n).val C.lk env) (.tuple #[])] true .send) w1:=by
   simp only[execOp,hop,Sem.run_pure,hev,hvv,scase]
  have h2:(execOp a.eval o).events C.P w1 #[]= #[]:=by simp only[execOp,hop,Sem.events_pure]
  rw[jo4 ho hw (fun c' e=>by rw[hop]at e;cases e) I.kind h1];simp only[evs,h2,seen_none]
 obtain⟨m,hq⟩:=I.quit (a.put o.dst undef) (by cases o.dst<;>exact hd0);refine .send ((p.av n).val C.lk env) (.tuple #[]) (fun r=>p.blk≠none/\r=(env n).blk) (m+1) rfl (fun kp1 w1 _=>step w1) (fun kp1 w1 r=>?_) (fun r hr=>?_) ?_
 ·refine⟨env n,hp.shift _ _ _,?_⟩;have R1:=(I.sim.rely r).rel;cases hb:p.blk with
  |none=>exact fun r hr=>hr.1 rfl
  | some vs =>
   obtain⟨u,hu⟩:=hblk vs hb;have hk:¬kp.no (env n).blk:=fun x=>I.sim.rel.kept n _ hu rfl (.inl x);refine⟨?_,R1.lt n _ hu,fun r=>by simp,fun k v hkv=>?_⟩
   ·rcases Nat.lt_or_ge (env n).blk B with z|z
    ·exact absurd (I.no _ z) hk
    ·exact z
   ·rw[R1.cell hu hkv];congr 1;exact jef (fun _ h=>h.elim) v (hp.cells vs hb v (List.mem_of_getElem? hkv))
 ·obtain⟨hb,rfl⟩:=hr;cases hbb:p.blk with
  |none=>exact absurd hbb hb
  |some vs=>
   obtain⟨u,hu⟩:=hblk vs hbb;exact⟨I.sim.rel.lt n _ hu,fun x=>I.sim.rel.kept n _ hu rfl (.inl x)⟩
 ·rw[jjd ho];exact QuitsIn.ctl rfl (fun w=>jdU) hq
theorem kbE(hp:p.Ok){dst:Option Nat}{x y:AOpd}(h:jrH p ic x y st):WWo C p ic nt [{dst:=dst,op:=.comm 2 [x,y],guard:=none}] st:=by
 intro ops k hk hl c B kp env a w b cs I;obtain⟨o,ho,he,htl,hk1,hsz⟩:=jey hl;have h0:ops.size-(k+1)=0:=by
  have:=congrArg List.length htl;simp at this;omega
 rw[hsz,h0];exact joF hp ho he h I
end
end Go.Ae
namespace Go.Ae
variable {C : Ctx} {h h' : Heap} {v vp : AV} {p : PlanP} {w w' : World} {env : Env} {kp : Keep} {ops : Array Oper} {st : St} {i n m j sz u : Nat} {l : List Int} {s : List (Int × Int)} {prn b f : Int} {cs vs : List AV} {nid : Option Nat} {o : Oper} {P : Program}
open Go.Conc
section
variable {C : Ctx} {p : AProm} {ic nt : Nat} {st : St}
def jgS(P:Program):Frame:={(default:Frame)with fn:=P.funcs.size,defers:=[],mode:=.panicking [goexitEntry]}
theorem jsn{P:Program}{f:FuncId}{cap args:Array Value}{w:World}(h:∀zas w,(callFunc f zas).run P w=.ok (.enter f zas) w/\∀es,(callFunc f zas).events P w es=es):
  stepG P false (born P {target:=.fn (.func f) cap,args:=args}) w=.go (G (Frame.enter P f (args++cap) .deferred) [jgS P]) w #[]:=by
 have h1:(invoke (.fn (.func f) cap) args).run P w=.ok (.enter f (args++cap)) w:=by simp only[invoke];exact(h _ w).1
 have h2:(invoke (.fn (.func f) cap) args).events P w #[]= #[]:=by simp only[invoke];exact(h _ w).2 #[]
 simp[born,stepG,unwind,callDeferred,Sem.runT_eq,h1,h2,GStep.after,G,jgS,seen_none]
theorem jqn(P:Program):QuitsIn P 1 (G (jgS P) []):=by
 refine .inr ⟨rfl,{frame:=jgS P,callers:=[],status:=.finished,dying:=none},fun w=>?_,rfl⟩;have h:(default:Frame).todo=[]:=rfl;simp[G,jgS,stepG,unwind,Frame.catches,goexitEntry,h]
theorem jso{fn:Func}{b:Frame}{a:Act}(hf:P.funcs[b.fn]? =some fn)(hr:fn.results= #[])(hk:b.kind=.deferred)(hro:b.roundOf=none)(hd:a.defers=[]):∃n,QuitsIn P n (G (b.atR a []) [jgS P]):=by
 refine⟨3,QuitsIn.ctl rfl (fun w=>jo3 hro) ?_⟩;refine QuitsIn.ctl (g':=G (jgS P) []) rfl (fun w=>?_) (jqn P);have h1:=results_none hr a.tmps P w;have h2:=events_results_none (P:=P) (w:=w) hr a.tmps;simp[G,stepG,unwind,Frame.atR,hd,hf,Sem.runT_eq,h1,h2,doReturn,hk,GStep.after,jgS,goexitEntry,seen_none]
theorem joG(hp:p.Ok){gw:Nat}{b:ABody}(hbody:C.body gw=some b)(hres:b.res=[]){first args cap:List AV}(hargs:(first++args++cap).length<=b.ntmps){h:Heap}(hic:h.ok ic)
  (hw:WW C p ic b.ntmps b.code ⟨argT (first++args++cap),h,[]⟩):jqj C gw first args cap ic h p:=by
 intro B kp env w R hB hno hhide hbel;unfold Ctx.body jjg at hbody;split at hbody
 ·rename_i fn hf;split at hbody
  ·cases hbody
  ·rename_i hname;split at hbody
   ·rename_i c rs hc hrs;cases hbody;dsimp only at hres;subst hres;have hresults:fn.results= #[]:=by
     cases hl:fn.results.toList with
     |nil=>simpa using hl
     |cons r rs=>
      rw[hl]at hrs;unfold lowerRess at hrs;split at hrs<;>cases hrs
    have hent:∀zas w,(callFunc (C.lk gw) zas).run C.P w=.ok (.enter (C.lk gw) zas) w/\∀es,(callFunc (C.lk gw) zas).events C.P w es=es:=by
     intro zas w;refine⟨by simp[callFunc,hf,hname,hc,mark],fun es=>?_⟩;simp[callFunc,Sem.events_bind,hf,hname,hc,Result.evThen]
    have hcl:=jfi C.P (env ic).blk (p.prom C.lk B);refine hcl.go rfl fun kp1 w1 r=>⟨_,w1, #[],jsn hent,rfl,kay _ _,fun e he=>(by simp at he),?_⟩;have hvals:((first++args).map (AV.val C.lk env)).toArray++(cap.map (AV.val C.lk env)).toArray=((first++args++cap).map (AV.val C.lk env)).toArray:=by simp
    rw[hvals];have R1:=R.rely r;have S:Sim C (kp1.or kaq) fn.ntmps env ⟨argT (first++args++cap),h,[]⟩ {tmps:=((first++args++cap).map (AV.val C.lk env)).toArray++Array.replicate (fn.ntmps-((first++args++cap).map (AV.val C.lk env)).toArray.size) undef,defers:=[]} w1:=by
     generalize first++args++cap=vs at hargs hbel|-
     have hsz:(vs.map (AV.val C.lk env)).toArray.size=vs.length:=by simp
     refine⟨?_,?_,?_,rfl,by simp,R1⟩
     ·have:vs.length<=fn.ntmps:=hargs;simp;omega
     ·intro s;rw[Array.getD_eq_getD_getElem?,Array.getElem?_append,hsz];simp only[argT,List.getD_eq_getElem?_getD];by_cases hs:s<vs.length
      ·rw[if_pos hs];simp[hs]
      ·rw[if_neg hs,List.getElem?_eq_none (by omega)];simp only[Option.getD_none,Array.getElem?_replicate];split<;>rfl
     ·intro s;simp only[argT,List.getD_eq_getElem?_getD];cases hs:vs[s]? with
      |none=>trivial
      |some v=>exact hbel v (List.mem_of_getElem? hs)
    let b:Frame:={(default:Frame)with fn:=C.lk gw,kind:=.deferred,roundOf:=none}
    have henter:Frame.enter C.P (C.lk gw) ((first++args++cap).map (AV.val C.lk env)).toArray .deferred=
      b.atR {tmps:=((first++args++cap).map (AV.val C.lk env)).toArray++Array.replicate (fn.ntmps-((first++args++cap).map (AV.val C.lk env)).toArray.size) undef,defers:=[]} [.code c]:=by
     simp[Frame.enter,Frame.atR,hf,hc,b]
    rw[henter];refine hw c rfl _ B kp1 env _ w1 b _ ⟨S,hic,rfl,fun q hq=>?_,rfl,by simp[b],fun a' ha=>jso hf hresults rfl rfl ha⟩;rw[r.eq];exact .inl (hno q (by omega))
   ·cases hbody
 ·cases hbody
end
end Go.Ae
namespace Go.Ae
variable {C : Ctx} {h h' : Heap} {v vp : AV} {p : PlanP} {w w' : World} {env : Env} {kp : Keep} {ops : Array Oper} {st : St} {i n m j sz u : Nat} {l : List Int} {s : List (Int × Int)} {prn b f : Int} {cs vs : List AV} {nid : Option Nat} {o : Oper} {P : Program}
theorem Has.work{T:List Nat}{c:Nat}{Φ:Prom}(h:Has C T):Has (C.work c Φ) T:=fun g hg b hb=>h g hg b hb
theorem Has.main0{T:List Nat}(h:Has C T):Has C.main0 T:=fun g hg b hb=>h g hg b hb
theorem Has.at{C:Ctx}{T:List Nat}(h:Has C T):∀ph,Has (C.at ph) T
 |none=>fun g hg b hb=>h g hg b hb
 |some _=>fun g hg b hb=>h g hg b hb
theorem kbJ(H:SL h sz v n cs)(K:KnownCap v):SL h.freeze sz v n cs:=by
 obtain⟨hl,hlt,⟨rfl,rfl⟩|⟨i,o,cp,vs,wr,u,rfl,hg,hle,hc,hcap⟩⟩:=H
 ·exact⟨hl,hlt,.inl ⟨rfl,rfl⟩⟩
 ·rcases K with K|⟨i',o',n',c',K⟩
  ·cases K
  ·cases K;exact⟨hl,hlt,.inr ⟨i,o,_,vs,false,u,rfl,by rw[jdH,hg];rfl,hle,hc,hcap⟩⟩
def fndC(i:Nat)(x:HitT)(c:Bool):List AV:=[.int .i64 (i:Nat),.int .i64 x.1,.int .i64 x.2.1,.int .i64 x.2.2.1,.int .i64 x.2.2.2,.bool c]
def fndP(i:Nat)(x:HitT)(c:Bool):AProm:=⟨fun _=>.agg (fndC i x c),none⟩
theorem fndP_ok(i:Nat)(x:HitT)(c:Bool):(fndP i x c).Ok:=
 ⟨fun lk n env=>rfl,fun n q hq=>by simp[fndP,fndC,AV.bel,kar],fun vs h=>by cases h⟩
theorem jsp(hC:Has C TA){v vp:AV}{p:PlanP}{s:List (Int×Int)}{b sh prn f:Int}{m i:Nat}{c0 c1 c2 c3 c4 c5 c6 c7 ic:Nat}{x0 x1 x2 x3 x4 x5 x6 x7:Bool}{u0 u1 u2 u3 u4 u5 u6 u7:Nat}{h:Heap}(hs:SI h v s)(R:RI h vp p.prns)(A:AcOk p s prn)(g0:gErr b sh=0)(hf:0<=f/\f<=1048576)(hm:1<=m/\m<=16)
  (k0:h.get c0=some (.cells [v] x0 u0)) (k1:h.get c1=some (.cells [.int .i64 p.d,.int .i64 p.o,.int .i64 p.pb,.int .i64 p.w,.int .i64 p.mn,.int .i64 p.mx,.int .i64 p.nz,vp] x1 u1)) (k2:h.get c2=some (.cells [.int .i64 prn] x2 u2)) (k3:h.get c3=some (.cells [.int .i64 f] x3 u3)) (k4:h.get c4=some (.cells [.int .i64 (m:Nat)] x4 u4))
  (k5:h.get c5=some (.cells [.int .i64 b,.int .i64 sh] x5 u5)) (k6:h.get c6=some (.cells [.chan ic] x6 u6)) (k7:h.get c7=some (.cells [.int .i64 (i:Nat)] x7 u7)) (hic:h.ok ic):
  jqj C 406 [] [] [.ptr c0 0,.ptr c1 0,.ptr c2 0,.ptr c3 0,.ptr c4 0,.ptr c5 0,.ptr c6 0,.ptr c7 0] ic h (fndP i (hitQ p s f m prn) (clmQ p sh s f m prn)):=by
 have hb:=A.hitB (f:=f) (m:=m);have dE:detErr p b sh prn=0:=by
  unfold detErr askErr;rw[if_pos A.err,g0,if_pos rfl,if_pos A.hin]
 have cE:jcE p b sh prn (hitQ p s f m prn).2.2.1 m=.tuple [.bool (clmQ p sh s f m prn),.int .i64 0]:=by
  unfold jcE;rw[if_pos dE,if_neg (by omega)];rfl
 have W:∀c Φ,(∀H,HSub h H->ACalls (C.work c Φ) 383 [v,plA p vp,.int .i64 prn,.int .i64 f,.int .i64 (m:Nat)] H (fun r h'=>r=.agg (hitCs (hitQ p s f m prn))/\HSub H h'))/\
   (∀H,HSub h H->ACalls (C.work c Φ) 313 [plA p vp,gA b sh,.int .i64 prn,.int .i64 (hitQ p s f m prn).2.2.1,.int .i64 (m:Nat)] H (fun r h'=>r=.tuple [.bool (clmQ p sh s f m prn),.int .i64 0]/\HSub H h')):=fun c Φ=>by
  have hW:Has (C.work c Φ) TA:=hC.work;refine⟨fun H q=>jgQ hW (hs.mono q) (R.mono q) A hf hm,fun H q=>?_⟩;have k:=jff hW (b:=b) (s:=sh) (prn:=prn) (pw:=(hitQ p s f m prn).2.2.1) (m:=(m:Nat)) (h:=H) (R.mono q) A.p64 (by unfold In64;omega) (by unfold In64;omega);rw[cE]at k;exact k
 clear hb dE cE;generalize hitQ p s f m prn=x at*;generalize clmQ p sh s f m prn=cl at*;obtain⟨y1,y2,y3,y4⟩:=x;unfold plA gA hitCs at W;dsimp only at W;have l0:=kab k0;have l1:=kab k1;have l2:=kab k2;have l3:=kab k3;have l4:=kab k4;have l5:=kab k5;have l6:=kab k6;have l7:=kab k7;have q8:∀{w u},loadB true 8 0 (some (.cells [.int .i64 p.d,.int .i64 p.o,.int .i64 p.pb,.int .i64 p.w,.int .i64 p.mn,.int .i64 p.mx,.int .i64 p.nz,vp] w u))=some (.agg [.int .i64 p.d,.int .i64 p.o,.int .i64 p.pb,.int .i64 p.w,.int .i64 p.mn,.int .i64 p.mx,.int .i64 p.nz,vp]):=rfl
 have q2:∀{w u},loadB true 2 0 (some (.cells [.int .i64 b,.int .i64 sh] w u))=some (.agg [.int .i64 b,.int .i64 sh]):=rfl;have q4:∀{w u},loadB true 4 0 (some (.cells [.int .i64 y1,.int .i64 y2,.int .i64 y3,.int .i64 y4] w u))=some (.agg [.int .i64 y1,.int .i64 y2,.int .i64 y3,.int .i64 y4]):=rfl;refine joG (fndP_ok i _ cl) (hC.body (by decide) (by rfl:tab 406=some B406)) rfl (Nat.le_of_ble_eq_true rfl) hic ?_;show WW C _ ic _ B406.code _;simp only[B406,zB];refine kbK fun c Φ=>?_;have w:=W c Φ;refine zs6 @k0 @k1 @k2 @k3 @k4 @q8 ?_;refine kad (w.1 _ (kaf _)) ?_;rintro r h1 ⟨rfl,s1⟩
 have z1:=s1.size;refine zs ?_;clear w;refine kbK fun c Φ=>?_;have w:=W c Φ;have e1:=(s1.get _ l1).trans k1;have e2:=(s1.get _ l2).trans k2;have e4:=(s1.get _ l4).trans k4;have e5:=(s1.get _ l5).trans k5;refine zs6 e1 e2 e4 e5 @q8 @q2 ?_;refine kad (w.2 _ (zh s1)) ?_;rintro r h2 ⟨rfl,s2⟩;have z2:=s2.size;simp only[Heap.size_push]at z2;have e6:h2.get c6=some (.cells [.chan ic] x6 u6):=(s2.get _ (by simp only[Heap.size_push];omega)).trans ((get_push_lt (by omega)).trans ((s1.get _ l6).trans k6));have e7:h2.get c7=some (.cells [.int .i64 (i:Nat)] x7 u7):=(s2.get _ (by simp only[Heap.size_push];omega)).trans ((get_push_lt (by omega)).trans ((s1.get _ l7).trans k7))
 have e8:h2.get h1.size=some (.cells [.int .i64 y1,.int .i64 y2,.int .i64 y3,.int .i64 y4] true 0):=(s2.get _ (by simp only[Heap.size_push];omega)).trans (get_push_eq rfl);refine zs ?_;refine kbw ?_;refine kaT rfl fun c Φ=>?_;refine zs1 e6 ?_;refine kaT rfl fun c Φ=>?_;refine zs1 e7 ?_;refine kaT rfl fun c Φ=>?_;refine zs2 e8 @q4 ?_;refine kaT rfl fun c Φ=>?_;refine zs ?_;refine kaT rfl fun c Φ=>?_;refine zs ?_;refine kbE (fndP_ok i _ cl) ⟨rfl,rfl,0,rfl,fun vs hvs=>by cases hvs⟩
section
variable {C : Ctx} {nt : Nat} {Q : Out -> Gh -> St -> Prop} {g : Gh} {st : St}
theorem kaG{a b:ACode}(h:∀ph,wp (C.at ph) nt none a (thenO (fun st'=>WM C nt b Q g st') fun o st'=>Q o g st') st):WM C nt (.seq a b) Q g st:=by
 refine kaZ (kaK fun ph=>jlY ?_ (h ph));intro o st' hq;cases o<;>exact hq
theorem jsq{ph:Phase}{o:AOper}{K:St->Prop}(ho:cls o.op≠2)(h:wpOp C nid o K st):wpOp (C.at ph) nid o K st:=by
 obtain⟨dst,op,gd⟩:=o;cases op<;>first|exact absurd rfl ho|exact h
theorem kaQ{K:Gh->St->Prop}{o:AOper}{os:List AOper}(hg:o.guard=none)(ho:cls o.op≠2)(h:wpOp C none o (fun st'=>WMo C nt os K g st') st):WMo C nt (o::os) K g st:=
 kbG hg fun ph=>jsq ho h
end
def seqR:ACode->ACode
 |.seq _ b=>b
 |c=>c
theorem jez{wr:Bool}(hg:h.get i=some (.cells vs wr u)):h.freeze.get i=some (.cells vs false u):=by rw[jdH,hg];rfl
theorem jha{f:Nat->List AV}{w:Nat}(hf:∀i,(f i).length=w):∀l:List Nat,(l.flatMap f).length=l.length*w
 |[]=>by simp
 |x::l=>by rw[List.flatMap_cons,List.length_append,hf,jha hf l,List.length_cons,Nat.succ_mul];omega
theorem jjf{f:Nat->List AV}{w:Nat}(hf:∀i,(f i).length=w){N k:Nat}(hk:k<N):∃A B,A.length=k*w/\(∀g:Nat->List AV,(∀i,i≠k->g i=f i)->(List.range N).flatMap g=A++(g k++B)):=by
 refine⟨(List.range k).flatMap f,(List.range' (k+1) (N-k-1)).flatMap f,by rw[jha hf,List.length_range],fun g hg=>?_⟩;have e:List.range N=List.range k++k::List.range' (k+1) (N-k-1):=by
  rw[List.range_eq_range',List.range_eq_range',show N=k+(N-k-1+1)by omega,<-List.range'_append_1,Nat.zero_add,List.range'_succ];congr 3;omega
 have c1:(List.range k).flatMap g=(List.range k).flatMap f:=by
  rw[List.flatMap_def,List.flatMap_def];congr 1;refine List.map_congr_left fun i hi=>hg i (by have:=List.mem_range.1 hi;omega)
 have c2:(List.range' (k+1) (N-k-1)).flatMap g=(List.range' (k+1) (N-k-1)).flatMap f:=by
  rw[List.flatMap_def,List.flatMap_def];congr 1;refine List.map_congr_left fun i hi=>hg i (by have:=(List.mem_range'_1.1 hi).1;omega)
 rw[e,List.flatMap_append,List.flatMap_cons,c1,c2]
theorem jrp{f:Nat->List AV}{w:Nat}(hf:∀i,(f i).length=w){N k:Nat}(hk:k<N):cut ((List.range N).flatMap f) (k*w) w=f k:=by
 obtain⟨A,B,hA,h⟩:=jjf hf hk;rw[h f fun _ _=>rfl];unfold cut;rw[<-hA,List.drop_left,<-hf k,List.take_left]
theorem jmN{f:Nat->List AV}{w:Nat}(hf:∀i,(f i).length=w){N k:Nat}(hk:k<N){xs:List AV}(hx:xs.length=w)(hw:2<=w):splice ((List.range N).flatMap f) (k*w) xs=(List.range N).flatMap fun i=>if i=k then xs else f i:=by
 obtain⟨A,B,hA,h⟩:=jjf hf hk;rw[h f (fun _ _=>rfl),h (fun i=>if i=k then xs else f i) (fun i hi=>if_neg hi),if_pos rfl];have e:splice (A++(f k++B)) (k*w) xs=(A++(f k++B)).take (k*w)++xs++(A++(f k++B)).drop (k*w+xs.length):=by
  unfold splice;split
  ·simp at hx;omega
  ·rfl
 rw[e,<-hA,List.take_left,List.append_assoc,<-List.drop_drop,List.drop_left,hx,<-hf k,List.drop_left]
def fndZ:List AV:=[.int .i64 0,.int .i64 0,.int .i64 0,.int .i64 0,.int .i64 0,.bool false]
def resC(F:Nat->List AV)(N:Nat)(D:List Nat):List AV:=(List.range N).flatMap fun i=>if i∈D then F i else fndZ
theorem jrq{F:Nat->List AV}{N:Nat}:jbo N fndZ=resC F N []:=by
 show(List.replicate N fndZ).flatten=_;unfold resC;rw[List.flatMap_def];congr 1;refine List.ext_getElem (by simp) fun i a b=>by simp
theorem jqo{F:Nat->List AV}(hF:∀i,(F i).length=6){N e:Nat}{D:List Nat}(he:e<N):splice (resC F N D) (e*6) (F e)=resC F N (D++[e]):=by
 unfold resC;rw[jmN (fun i=>by split;exact hF i;rfl) he (hF e) (by decide)];congr 1;funext i;by_cases c:i=e
 ·subst c;simp
 ·simp[c]
theorem jqp{F:Nat->List AV}{N:Nat}{D:List Nat}(h:D.Perm (List.range N)):resC F N D=(List.range N).flatMap F:=by
 unfold resC;rw[List.flatMap_def,List.flatMap_def];congr 1;refine List.map_congr_left fun i hi=>if_pos ((h.mem_iff).2 hi)
theorem jrr{F:Nat->List AV}(hF:∀i,(F i).length=6){N:Nat}{D:List Nat}:(resC F N D).length=N*6:=by
 unfold resC;rw[jha (w:=6) (fun i=>by split;exact hF i;rfl),List.length_range]
structure AllH (v vp:AV) (s:List (Int×Int)) (p:PlanP) (b sh f:Int) (m i c:Nat) (h:Heap):Prop where
 s:SI h v s
 r:RI h vp p.prns
 g0:∃w u,h.get i=some (.cells [v] w u)
 g1:∃w u,h.get (i+1)=some (.cells [.int .i64 p.d,.int .i64 p.o,.int .i64 p.pb,.int .i64 p.w,.int .i64 p.mn,.int .i64 p.mx,.int .i64 p.nz,vp] w u)
 g2:∃w u,h.get (i+2)=some (.cells [.int .i64 b,.int .i64 sh] w u)
 g3:∃w u,h.get (i+3)=some (.cells [.int .i64 f] w u)
 g4:∃w u,h.get (i+4)=some (.cells [.int .i64 (m:Nat)] w u)
 g5:∃w u,h.get (c+1)=some (.cells [.chan c] w u)
theorem jbm(hs:HSub h h')(g:∃w u,h.get i=some (.cells vs w u)):∃w u,h'.get i=some (.cells vs w u):=by
 obtain⟨w,u,g⟩:=g;exact⟨w,u,(hs.get _ (kab g)).trans g⟩
theorem jdI(g:∃w u,h.get i=some (.cells vs w u)):∃w u,h.freeze.get i=some (.cells vs w u):=by
 obtain⟨w,u,g⟩:=g;exact⟨_,_,jez g⟩
theorem AllH.mono{sh:Int}{c:Nat}(H:AllH v vp s p b sh f m i c h)(hs:HSub h h'):AllH v vp s p b sh f m i c h':=
 ⟨H.s.mono hs,H.r.mono hs,jbm hs H.g0,jbm hs H.g1,jbm hs H.g2,jbm hs H.g3,jbm hs H.g4,jbm hs H.g5⟩
theorem AllH.frz{sh:Int}{c:Nat}(H:AllH v vp s p b sh f m i c h)(K:KnownCap v)(L:KnownCap vp):AllH v vp s p b sh f m i c h.freeze:=
 ⟨kbJ H.s K,kbJ H.r L,jdI H.g0,jdI H.g1,jdI H.g2,jdI H.g3,jdI H.g4,jdI H.g5⟩
theorem joH{P:Nat->AProm}{V:Nat->AV}(hP:∀i,(P i).blk=none)(hV:∀i n,(P i).av n=V i){ic b dst:Nat}{rem:List Nat}{Hs H h Hc:Heap}{T:Nat->AV}{K:Gh->St->Prop}{vs:List AV}(hic:h.size<=ic)(h1:HSub h Hc)(h2:HSub Hc Hs)(hb:Hs.size<=b)(hbz:b<H.size)(hg:H.get b=some (.cells vs true 0))
  (hK:∀g' H' A e B,rem=A++e::B->H'.get b=some (.cells vs true 0)->H'.size=H.size->(A++B=[]->g'=.idle/\HSub h H')->(A++B≠[]->g'=.busy ic ((A++B).map P) Hs/\H'=H)->
   K g' ⟨upd T dst (V e),H',[]⟩):jnt (.busy ic (rem.map P) Hs) (.chan ic) (some dst) K ⟨T,H,[]⟩:=by
 refine⟨rfl,fun A q B hAB=>?_⟩;obtain⟨A1,e,B1,hr,rfl,rfl,rfl⟩:=jlz hAB;have z1:=h1.size;have z2:=h2.size;have el:∀X:Heap,(P e).land X=X:=fun X=>by unfold AProm.land;rw[hP]
 rw[el,el,hV];constructor
 ·intro hne;refine hK (.busy ic (A1.map P++B1.map P) Hs) H A1 e B1 hr hg rfl ?_ ?_
  ·intro h0;exfalso;obtain⟨a,b⟩:=List.append_eq_nil_iff.1 h0;subst a;subst b;exact hne rfl
  ·intro _;exact⟨by rw[List.map_append],rfl⟩
 ·intro h0;have hAB0:A1++B1=[]:=by
   obtain⟨a,b⟩:=List.append_eq_nil_iff.1 h0;rw[List.map_eq_nil_iff.1 a,List.map_eq_nil_iff.1 b];rfl
  have gT:∀i,i<Hs.size->i≠ic->(Hs.thaw ic H).get i=Hs.get i:=fun i hi hne=>by
   show(if i<H.size then(if i<Hs.size then(if i=ic then some .dead else Hs.get i)else _)else none)=_;rw[if_pos (by omega),if_pos hi,if_neg hne]
  refine hK .idle (Hs.thaw ic H) A1 e B1 hr ?_ rfl ?_ ?_
  ·show(if b<H.size then(if b<Hs.size then _ else(H.get b).map fun x=>if x.wr then x else .dead)else none)=_;rw[if_pos hbz,if_neg (by omega),hg];rfl
  ·intro _;refine⟨rfl,⟨by show h.size<=H.size;omega,fun i hi=>?_⟩⟩;rw[gT i (by omega) (by omega),h2.get i (by omega),h1.get i hi]
  ·intro hne;exact absurd hAB0 hne
theorem jrs(hC:Has C TA){v vp:AV}{p:PlanP}{s:List (Int×Int)}{b sh f:Int}{m i:Nat}{H:Heap}{t:Nat->AV}{Q:Out->Gh->St->Prop}(hs:SI H v s)(Ks:KnownCap v)(R:RI H vp p.prns)(Kp:KnownCap vp)(A:∀prn∈p.prns,AcOk p s prn)(pk:PlanOk p)(g0:gErr b sh=0)(hf:0<=f/\f<=1048576)(hm:1<=m/\m<=16)
  (a0:∃w u,H.get i=some (.cells [v] w u)) (a1:∃w u,H.get (i+1)=some (.cells [.int .i64 p.d,.int .i64 p.o,.int .i64 p.pb,.int .i64 p.w,.int .i64 p.mn,.int .i64 p.mx,.int .i64 p.nz,vp] w u)) (a2:∃w u,H.get (i+2)=some (.cells [.int .i64 b,.int .i64 sh] w u)) (a3:∃w u,H.get (i+3)=some (.cells [.int .i64 f] w u)) (a4:∃w u,H.get (i+4)=some (.cells [.int .i64 (m:Nat)] w u))
  (e5:t 5=.ptr i 0) (e6:t 6=.ptr (i+1) 0) (e7:t 7=.ptr (i+2) 0) (e8:t 8=.ptr (i+3) 0) (e9:t 9=.ptr (i+4) 0)
  (hfin:∀t' h' w,t' 10=w->t' 11=.int .i64 0->HSub H h'->HI h' w (hitsL p sh s f m p.prns)->Q .ret .idle ⟨t',h',[]⟩):
  WM C 84 (seqR (seqR (seqR B397.code))) Q .idle ⟨t,H,[]⟩:=by
 have Rl:=R.len;have l8:=pk.len;have v1:=R.one;have q7:([.int .i64 p.d,.int .i64 p.o,.int .i64 p.pb,.int .i64 p.w,.int .i64 p.mn,.int .i64 p.mx,.int .i64 p.nz,vp]:List AV)[7]? =some vp:=rfl;simp only[B397,seqR,zB];refine kaZ (ka4 ?_);refine kaQ rfl (by decide) ?_;show WMo C 84 _ _ .idle ⟨upd t 41 (.chan H.size),H.push .chan,[]⟩;refine kaQ rfl (by decide) ?_;show WMo C 84 _ _ .idle ⟨upd (upd t 41 (.chan H.size)) 13 (.ptr (H.size+1) 0),(H.push .chan).push (.cells [.nilchan] true 0),[]⟩;refine kaQ rfl (by decide) ?_;have st1:jd9 ((H.push .chan).push (.cells [.nilchan] true 0)) 1 (.ptr (H.size+1) 0) (.chan H.size)=some ((H.push .chan).push (.cells [.chan H.size] true 0)):=by
  have g:((H.push .chan).push (.cells [.nilchan] true 0)).get (H.size+1)=some (.cells [.nilchan] true 0):=get_push_eq rfl;simp only[jd9,g];rw[if_pos ⟨rfl,by simp,rfl⟩];simp only[AV.cells,splice,List.set_cons_zero];rw[push_put (h:=H.push .chan) (i:=H.size+1) rfl]
 show(match (jd9 ((H.push .chan).push (.cells [.nilchan] true 0)) 1 (.ptr (H.size+1) 0) (.chan H.size)).map fun h'=>(AV.undef,h')with|some (v,h')=>WMo C 84 _ _ .idle (St.put ⟨upd (upd t 41 (.chan H.size)) 13 (.ptr (H.size+1) 0),h',[]⟩ none v)|none=>False);rw[st1];refine kbj ?_;show WM C 84 _ Q .idle ⟨upd (upd t 41 (.chan H.size)) 13 (.ptr (H.size+1) 0),(H.push .chan).push (.cells [.chan H.size] true 0),[]⟩;have sHc:=(kac H .chan).push (.cells [.chan H.size] true 0);have gic:((H.push .chan).push (.cells [.chan H.size] true 0)).get H.size=some .chan:=by rw[kap,if_neg (by simp),kap,if_pos rfl]
 have AH:AllH v vp s p b sh f m i H.size ((H.push .chan).push (.cells [.chan H.size] true 0)):=⟨hs.mono sHc,R.mono sHc,jbm sHc a0,jbm sHc a1,jbm sHc a2,jbm sHc a3,jbm sHc a4,⟨_,_,get_push_eq rfl⟩⟩;have zc:((H.push .chan).push (.cells [.chan H.size] true 0)).size=H.size+2:=by simp
 generalize hHc:(H.push .chan).push (.cells [.chan H.size] true 0)=Hc at*;obtain⟨w1,u1,g1⟩:=AH.g1;refine kaZ ?_;refine kaG fun ph=>?_;refine zs4 e6 g1 q7 Rl ?_;have hP:∃P:Nat->AProm,P=fun j=>fndP j (hitQ p s f m (p.prns.getD j 0)) (clmQ p sh s f m (p.prns.getD j 0)):=⟨_,rfl⟩;obtain⟨P,hP⟩:=hP;generalize hN:p.prns.length=N at*;refine kaX ?_;refine kbB (fun j g st=>∃k:Nat,k<=N/\j=N-k/\st.m=[]/\st.t 5=.ptr i 0/\st.t 6=.ptr (i+1) 0/\st.t 7=.ptr (i+2) 0/\st.t 8=.ptr (i+3) 0/\st.t 9=.ptr (i+4) 0/\st.t 13=.ptr (H.size+1) 0/\st.t 43=vp/\st.t 44=.int .i64 (N:Nat)/\st.t 45=.int .i64 (k:Nat)/\
  AllH v vp s p b sh f m i H.size st.h/\Hc.size<=st.h.size/\st.h.ok H.size/\(k=0->g=.idle/\st.h=Hc)/\(0<k->∃Hs,g=.busy H.size ((List.range k).map P) Hs/\HSub Hc Hs/\Hs.size<=st.h.size)) (j0:=N)
  ⟨0,by omega,rfl,rfl,e5,e6,e7,e8,e9,rfl,rfl,rfl,rfl,AH,Nat.le_refl _,by simp[Heap.ok,gic],fun _=>⟨rfl,rfl⟩,fun q=>absurd q (Nat.lt_irrefl 0)⟩ ?_
 rintro j g ⟨u,X,mk⟩ ⟨k,hk,hj,hm0,f5,f6,f7,f8,f9,f13,f43,f44,f45,AX,zX,okX,k0,k1⟩;dsimp only at hm0 f5 f6 f7 f8 f9 f13 f43 f44 f45 AX zX okX k0 k1;subst hm0;refine kaG fun ph=>?_;refine zs2 f44 f45 ?_;refine kaG fun ph=>?_;refine zs ?_;refine kag (fun c2=>?_) (fun c2=>?_)
 ·have hk':k<N:=by omega
  have ix:=AX.r.idx (kk:=.i64) (k:=((k:Nat):Int)) ⟨by omega,by omega⟩;rw[Int.toNat_natCast]at ix;have ld:=fun X2 (q:HSub X X2)=>(AX.r.mono q).load (k:=k) (by omega);have rf:=kaf X;refine zs ?_;refine kaZ (kaX ?_);refine kaG fun ph=>?_;refine zs4 f43 f45 ix ld ?_;refine ka4 (kaQ rfl (by decide) ?_);refine zs6 f5 f6 f7 f8 f9 f13 ?_;refine kbR ?_;have hs9:=(kac X (.cells [.int .i64 (k:Nat)] true 0)).push (.cells [.int .i64 (p.prns.getD k 0)] true 0);have g14:((X.push (.cells [.int .i64 (k:Nat)] true 0)).push (.cells [.int .i64 (p.prns.getD k 0)] true 0)).get X.size=some (.cells [.int .i64 (k:Nat)] true 0):=by rw[kap,if_neg (by simp)];exact get_push_eq rfl
  have g15:((X.push (.cells [.int .i64 (k:Nat)] true 0)).push (.cells [.int .i64 (p.prns.getD k 0)] true 0)).get (X.size+1)=some (.cells [.int .i64 (p.prns.getD k 0)] true 0):=get_push_eq rfl;have z9:((X.push (.cells [.int .i64 (k:Nat)] true 0)).push (.cells [.int .i64 (p.prns.getD k 0)] true 0)).size=X.size+2:=by simp
  generalize hX9:(X.push (.cells [.int .i64 (k:Nat)] true 0)).push (.cells [.int .i64 (p.prns.getD k 0)] true 0)=X9 at*;have A9:=AX.mono hs9;have ok9:X9.ok H.size:=by
   have hlt:=kaA okX;simp only[Heap.ok]at okX|-;rw[hs9.get _ hlt];exact okX
  show wpGo C g (.func 406 [] [.ptr i 0,.ptr (i+1) 0,.ptr (X.size+1) 0,.ptr (i+3) 0,.ptr (i+4) 0,.ptr (i+2) 0,.ptr (H.size+1) 0,.ptr X.size 0]) [] none _ _;refine⟨H.size,P k,?_,by rw[hP];exact fndP_ok _ _ _,?_,?_⟩
  ·rcases Nat.eq_zero_or_pos k with q|q
   ·obtain⟨rfl,hHH⟩:=k0 q;have gi:X9.get H.size=Hc.get H.size:=by rw[hs9.get H.size (kaA okX),hHH]
    exact gi.trans gic
   ·obtain⟨Hs,rfl,_⟩:=k1 q;rfl
  ·obtain⟨F1,F2,⟨_,_,F3⟩,⟨_,_,F4⟩,⟨_,_,F5⟩,⟨_,_,F6⟩,⟨_,_,F7⟩,⟨_,_,F8⟩⟩:=A9.frz Ks Kp;rw[hP];exact jsp hC F1 F2 (A _ (jau (by omega))) g0 hf hm F3 F4 (jez g15) F6 F7 F5 F8 (jez g14) ((jie _ _).2 ok9)
  ·refine kbj ?_;refine kaK fun ph=>?_;show wp _ _ _ _ _ ⟨_,X9.freeze,[]⟩;refine zs1 f45 ?_;have zz:(X9.freeze).size=X9.size:=rfl;refine⟨_,by omega,k+1,by omega,rfl,f5,f6,f7,f8,f9,f13,f43,f44,by simp,A9.frz Ks Kp,by omega,(jie _ _).2 ok9,fun q=>absurd q (by omega),fun _=>?_⟩;rcases Nat.eq_zero_or_pos k with q|q
   ·obtain⟨rfl,hHH⟩:=k0 q;subst q;exact⟨X9,by simp[jif],by rw[<-hHH];exact hs9,Nat.le_refl _⟩
   ·obtain⟨Hs,rfl,hHs,hHz⟩:=k1 q;exact⟨Hs,by simp[jif,List.range_succ],hHs,by omega⟩
 ·refine zs ?_;rw[if_pos trivial];obtain rfl:k=N:=by omega
  obtain⟨w2,u2,g2⟩:=AX.g1;refine kaG fun ph=>?_;refine zs4 f6 g2 q7 Rl ?_;have l2:=kab g2;have zHc:=sHc.size;have hF:∃F:Nat->List AV,F=fun j=>[.int .i64 (j:Nat),.int .i64 (hitQ p s f m (p.prns.getD j 0)).1,.int .i64 (hitQ p s f m (p.prns.getD j 0)).2.1,.int .i64 (hitQ p s f m (p.prns.getD j 0)).2.2.1,.int .i64 (hitQ p s f m (p.prns.getD j 0)).2.2.2,.bool (clmQ p sh s f m (p.prns.getD j 0))]:=⟨_,rfl⟩;obtain⟨F,hF⟩:=hF;have F6:∀j,(F j).length=6:=fun j=>by rw[hF];rfl
  have Fe:∀j,F j=[.int .i64 (j:Nat),.int .i64 (hitQ p s f m (p.prns.getD j 0)).1,.int .i64 (hitQ p s f m (p.prns.getD j 0)).2.1,.int .i64 (hitQ p s f m (p.prns.getD j 0)).2.2.1,.int .i64 (hitQ p s f m (p.prns.getD j 0)).2.2.2,.bool (clmQ p sh s f m (p.prns.getD j 0))]:=fun j=>by rw[hF]
  have PF:∀j n,(P j).av n=.agg [.int .i64 (j:Nat),.int .i64 (hitQ p s f m (p.prns.getD j 0)).1,.int .i64 (hitQ p s f m (p.prns.getD j 0)).2.1,.int .i64 (hitQ p s f m (p.prns.getD j 0)).2.2.1,.int .i64 (hitQ p s f m (p.prns.getD j 0)).2.2.2,.bool (clmQ p sh s f m (p.prns.getD j 0))]:=fun j n=>by rw[hP];rfl
  have rz:jbo k [.int .i64 0,.int .i64 0,.int .i64 0,.int .i64 0,.int .i64 0,.bool false]=resC F k []:=jrq;refine kaZ ?_;refine kaG fun ph=>?_;refine zs4 f6 g2 q7 Rl ?_;refine kaX ?_;refine kbB (fun j g st=>∃(D rem:List Nat),(D++rem).Perm (List.range k)/\j=rem.length/\st.m=[]/\st.t 13=.ptr (H.size+1) 0/\st.t 16=.slice X.size 0 k (.known k)/\st.t 58=.int .i64 (k:Nat)/\st.t 59=.int .i64 (D.length:Nat)/\st.h.get X.size=some (.cells (resC F k D) true 0)/\X.size<st.h.size/\
   (rem=[]->g=.idle/\HSub H st.h)/\(rem≠[]->∃Hs,g=.busy H.size (rem.map P) Hs/\HSub Hc Hs/\Hs.size<=X.size/\∃wr u,st.h.get (H.size+1)=some (.cells [.chan H.size] wr u))) (j0:=k)
   ⟨[],List.range k,List.Perm.refl _,by simp,rfl,f13,rfl,rfl,rfl,by rw[<-rz];exact get_push_eq rfl,by simp,fun q=>?_,fun q=>?_⟩ ?_
  ·obtain⟨rfl,hHH⟩:=k0 (by simpa using congrArg List.length q);exact⟨rfl,by rw[hHH];exact sHc.push _⟩
  ·obtain⟨Hs,rfl,hHs,hHz⟩:=k1 (by
    rcases Nat.eq_zero_or_pos k with z|z
    ·subst z;exact absurd rfl q
    ·exact z)
   exact⟨Hs,rfl,hHs,hHz,jbm (kac X _) AX.g5⟩
  rintro j3 g3 ⟨u2,H2,mk2⟩ ⟨D,rem,hperm,hj2,hm2,r13,r16,r58,r59,gb,zb,i0,i1⟩;dsimp only at hm2 r13 r16 r58 r59 gb zb i0 i1;subst hm2;have hlen:=hperm.length_eq;rw[List.length_append,List.length_range]at hlen;refine kaG fun ph=>?_;refine zs2 r58 r59 ?_;refine kaG fun ph=>?_;refine zs ?_;refine kag (fun c3=>?_) (fun c3=>?_)
  ·have hrem:rem≠[]:=by rintro rfl;simp at hlen;omega
   obtain⟨Hs,rfl,hHs,hHz,wr',uu',gc2⟩:=i1 hrem;refine zs ?_;refine kaZ (kaX ?_);refine kaZ (ka4 ?_);refine kaQ rfl (by decide) ?_;refine zs2 r13 gc2 ?_;refine kbD ?_;show jnt (.busy H.size (rem.map P) Hs) (.chan H.size) (some 62) _ ⟨_,H2,[]⟩;refine joH (fun j=>by rw[hP];rfl) PF (h:=H) (Hc:=Hc) (b:=X.size) (Nat.le_refl _) sHc hHs hHz zb gb fun g4 H3 A e B hr gb3 z3 hlast hmore=>?_;have hpe:(D++e::(A++B)).Perm (List.range k):=by
    rw[hr]at hperm;exact(List.Perm.append_left D (List.perm_middle.symm)).trans hperm
   have hek:e<k:=List.mem_range.1 (hpe.subset (by simp));have sp:=jqo F6 (D:=D) hek;rw[Fe e]at sp;have rl:=jrr F6 (N:=k) (D:=D);have sb:=fun hh:Heap=>storeB_agg (h:=hh) (i:=X.size) (n:=6) (o:=e*6) (u:=0) (vs:=resC F k D) (xs:=[.int .i64 (e:Nat),.int .i64 (hitQ p s f m (p.prns.getD e 0)).1,.int .i64 (hitQ p s f m (p.prns.getD e 0)).2.1,.int .i64 (hitQ p s f m (p.prns.getD e 0)).2.2.1,.int .i64 (hitQ p s f m (p.prns.getD e 0)).2.2.2,.bool (clmQ p sh s f m (p.prns.getD e 0))]) rfl (by rw[rl];omega) rfl;rw[sp]at sb;have sb:=fun hh=>sb hh;refine kaQ rfl (by decide) ?_
   refine zs ?_;refine kaQ rfl (by decide) ?_;refine zs ?_;refine kbj ?_;refine kaK fun ph=>?_;refine zs3 r16 gb3 sb ?_;have hD1:(D++[e]).length=D.length+1:=by simp
   refine kaK fun ph=>?_;refine zs1 r59 ?_;refine⟨(A++B).length,by rw[hj2,hr];simp,D++[e],A++B,by rw[List.append_assoc];exact hpe,rfl,r13,r16,r58,by rw[hD1];omega,rfl,by omega,fun q=>?_,fun q=>?_⟩
   ·obtain⟨x1,x2⟩:=hlast q;exact⟨x1,(x2.put (by omega) _).push _⟩
   ·obtain⟨x1,rfl⟩:=hmore q;exact⟨Hs,x1,hHs,hHz,wr',uu',gc2⟩
  ·have hrem:rem=[]:=List.eq_nil_of_length_eq_zero (by omega);subst hrem;obtain⟨rfl,hsub⟩:=i0 rfl;refine zs ?_;rw[if_pos trivial];refine kaK fun ph=>?_;rw[List.append_nil]at hperm;rw[jqp hperm]at gb;refine zs1 r16 ?_;have tz:hitsL p sh s f m (p.prns.take 0)=[]:=rfl;have ta:p.prns.take k=p.prns:=by rw[<-hN];exact List.take_length
   have rl:=jha F6 (List.range k);rw[List.length_range]at rl;refine jae (fun j t h'=>∃q:Nat,GrwH H2 h' (t 18) (hitsL p sh s f m (p.prns.take q))/\t 69=.slice X.size 0 k (.known k)/\t 70=.int .i64 (k:Nat)/\t 71=.int .i64 (q:Nat)/\q<=k/\j=k-q) (j0:=k)
    ⟨0,by rw[tz];exact kbs _,rfl,rfl,rfl,by omega,rfl⟩ ?_
   rintro j4 t4 H4 ⟨q,G,x69,x70,x71,hq,hj4⟩;refine zs2 x70 x71 ?_;refine kag (fun c4=>?_) (fun c4=>?_)
   ·have hq':q<k:=by omega
    have gq:=(G.sub.get _ zb).trans gb;have lb:∀{w u},loadB true 6 (q*6) (some (.cells ((List.range k).flatMap F) w u))=some (.agg (F q)):=fun{w u}=>by
     show partA true _ _ _=_;simp only[partA,if_true];rw[if_pos (by rw[rl];omega),jrp F6 hq']
    rw[Fe q]at lb;have eL:=jjc (p:=p) (sh:=sh) (s:=s) (f:=f) (m:=m) (l:=p.prns) (k:=q) (by omega);have hl:=jnq p sh s f m (p.prns.take q);have tl:(p.prns.take q).length<=8:=by rw[List.length_take];omega
    have zG:=G.sub.size;have eQ:hitQ p s f m (p.prns.getD q 0)=((hitQ p s f m (p.prns.getD q 0)).1,(hitQ p s f m (p.prns.getD q 0)).2.1,(hitQ p s f m (p.prns.getD q 0)).2.2.1,(hitQ p s f m (p.prns.getD q 0)).2.2.2):=rfl;by_cases cq:clmQ p sh s f m (p.prns.getD q 0)=true
    ·rw[if_pos cq]at eL;rw[cq]at lb;have ap:=fun b1 b2=>G.app (a:=(hitQ p s f m (p.prns.getD q 0)).1) (b:=(hitQ p s f m (p.prns.getD q 0)).2.1) (c:=(hitQ p s f m (p.prns.getD q 0)).2.2.1) (d:=(hitQ p s f m (p.prns.getD q 0)).2.2.2) ((H4.push b1).push b2) ((kac H4 b1).push b2) (by omega);have sn:=fun b1 b2=>G.snoc (x:=hitQ p s f m (p.prns.getD q 0)) (H:=(H4.push b1).push b2) ((kac H4 b1).push b2) (by omega);rw[<-eQ,<-eL]at ap;rw[<-eL]at sn;refine zs7 x69 x71 gq @lb @cont_slice @jqg ap ?_;exact⟨_,⟨q+1,sn _ _,x70,by simp,by omega,rfl⟩,by omega⟩
    ·rw[if_neg cq]at eL;rw[Bool.eq_false_iff.2 cq]at lb;refine zs4 x69 x71 gq @lb ?_;exact⟨_,⟨q+1,by rw[eL];exact Grw.mono G (kac _ _),x70,by simp,by omega,rfl⟩,by omega⟩
   ·obtain rfl:q=k:=by omega
    refine zs ?_;rw[ta]at G;exact hfin _ _ _ rfl rfl (hsub.trans G.sub) G.hi
theorem jrt(hC:Has C TA){v vp:AV}{p:PlanP}{s:List (Int×Int)}{b sh f m:Int}{h:Heap}(hs:SI h v s)(Ks:KnownCap v)(R:RI h vp p.prns)(Kp:KnownCap vp)(p64:p.ok64)(hf:In64 f)(hm:In64 m):
  ACalls C.main0 397 [v,plA p vp,gA b sh,.int .i64 f,.int .i64 m] h (jlx p b sh s f m h):=by
 have v1:=R.one;have vs1:=hs.one;have vc:=hs.cells;have kp:=fun ph H (q:HSub h H)=>jbW (hC.at ph) (h:=H) (p:=p) ⟨vp,rfl,R.mono q⟩ p64;have kg:=fun ph H=>jc9 (hC.at ph) (h:=H) (b:=b) (s:=sh);have ks:=fun ph H (q:HSub h H)=>jcf (hC.at ph) (h:=H) (hs.mono q);have kl:=fun ph H=>jcq (hC.at ph) (h:=H) (f:=f) (m:=m);have k1:=fun ph H i u (g:H.get i=some (.cells (ints [p.err,gErr b sh,sampE s,placE f m]) true u))=>jcL (hC.at ph) (h:=H) (l:=[p.err,gErr b sh,sampE s,placE f m]) (v:=.slice i 0 4 (.known 4)) (kah g ⟨rfl,by simp⟩ (by simp)) (by simp)
 refine joD (hC.body (by decide) (by rfl:tab 397=some B397)) (Nat.le_of_ble_eq_true rfl) ?_;show WM C _ B397.code _ _ _;simp only[B397,zB];unfold jlx;by_cases c:firstE [p.err,gErr b sh,sampE s,placE f m]=0
 ·rw[c]at k1;have z:=jbM c;have ao:=acOkA (f:=f) (m:=m) p64 (z _ (by simp)) (z (sampE s) (by simp)) (z (placE f m) (by simp));have g0:=z (gErr b sh) (by simp);obtain⟨⟨A,pk,hl2⟩,hf',hm'⟩:=ao;have l8:=pk.len;have ee:allErr p b sh s f m=if fitB s p f m=true then 0 else 16:=by unfold allErr;rw[c,if_neg (by decide)]
  have eM:∃k:Nat,m=(k:Int):=⟨m.toNat,by omega⟩;obtain⟨mn,rfl⟩:=eM;have kF:=fun ph H (q:HSub h H)=>jgM (hC.at ph) (p:=p) (h:=H) (hs.mono q) v1 pk.nums hf' hm';rw[ee];clear ee z;unfold plA gA at*;cases hB:fitB s p f mn with
  |false=>
   rw[hB]at kF;simp only[Bool.false_eq_true,if_false,show ¬(16:Int)=0 by decide];refine kaK fun ph=>?_;refine zs1 vc ?_;refine kaa (kp _ _ zr) (zs ?_);refine kaa (kg _ _) (zs ?_);refine kaa (ks _ _ zr) (zs ?_);refine kaa (kl _ _) (zs1 @Heap.wf ?_);refine kaa (k1 _ _ _ 0 (by refine zs ?_;rfl)) ?_;refine zs ?_;refine kaa (kF _ _ zr) (zs1 @jah.eq_1 ?_);exact⟨_,rfl,zr,rfl,by decide,.inl ⟨rfl,rfl⟩⟩
  | true =>
   rw[hB]at kF;simp only[if_true];refine kaG fun ph=>?_;refine zs1 vc ?_;refine kaG fun ph=>?_;refine zs ?_;refine kaa (kp _ _ zr) (zs ?_);refine kaa (kg _ _) (zs ?_);refine kaa (ks _ _ zr) (zs ?_);refine kaa (kl _ _) (zs1 @Heap.wf ?_);refine kaa (k1 _ _ _ 0 (by refine zs ?_;rfl)) ?_;refine zs ?_;refine kaG fun ph=>?_;refine zs ?_;refine kal (fun H hH=>?_);have g5:H.get h.size=some (.cells [v] true 0):=by rw[hH];exact ze
   have g6:H.get (h.size+1)=some (.cells [.int .i64 p.d,.int .i64 p.o,.int .i64 p.pb,.int .i64 p.w,.int .i64 p.mn,.int .i64 p.mx,.int .i64 p.nz,vp] true 0):=by rw[hH];exact ze
   have g7:H.get (h.size+2)=some (.cells [.int .i64 b,.int .i64 sh] true 0):=by rw[hH];exact ze
   have g8:H.get (h.size+3)=some (.cells [.int .i64 f] true 0):=by rw[hH];exact ze
   have g9:H.get (h.size+4)=some (.cells [.int .i64 (mn:Nat)] true 0):=by rw[hH];exact ze
   have hsH:HSub h H:=by rw[hH];exact zr
   clear hH;refine kaa (kF _ _ hsH) (zs ?_);exact jrs hC (i:=h.size) (hs.mono hsH) Ks (R.mono hsH) Kp A pk g0 hf' (by omega) ⟨_,_,g5⟩ ⟨_,_,g6⟩ ⟨_,_,g7⟩ ⟨_,_,g8⟩ ⟨_,_,g9⟩ rfl rfl rfl rfl rfl (fun t' h' w x10 x11 hs' hw=>⟨rfl,by
    show ∃w',AV.tuple [t' 10,t' 11]=jah w' 0/\_;rw[x10,x11];exact⟨w,rfl,hsH.trans hs',hw⟩⟩)
 ·have ee:allErr p b sh s f m=firstE [p.err,gErr b sh,sampE s,placE f m]:=by unfold allErr;rw[if_pos c]
  rw[ee,if_neg c];clear ee;generalize firstE [p.err,gErr b sh,sampE s,placE f m]=E at*;unfold plA gA at*;refine kaK fun ph=>?_;refine zs1 vc ?_;refine kaa (kp _ _ zr) (zs ?_);refine kaa (kg _ _) (zs ?_);refine kaa (ks _ _ zr) (zs ?_);refine kaa (kl _ _) (zs1 @Heap.wf ?_);refine kaa (k1 _ _ _ 0 (by refine zs ?_;rfl)) ?_;refine zs2 c @jah.eq_1 ?_;exact⟨_,rfl,zr,rfl,by decide,.inl ⟨rfl,rfl⟩⟩
theorem jkc(hC:Has C TA){v vp:AV}{p:PlanP}{s:List (Int×Int)}{b sh prn f pw m n:Int}{h:Heap}(hs:SI h v s)(R:RI h vp p.prns)(p64:p.ok64)(hf:In64 f)(hm:In64 m)(hn:In64 n)(ht:p.err=0->gErr b sh=0->thrI p sh prn<3000000000):
  ACalls C 400 [v,plA p vp,gA b sh,hitA prn f pw m,.int .i64 n] h (fun r h'=>r=jgy p b sh s prn f m n/\HSub h h'):=by
 have v1:=R.one;have ki:=fun H (q:HSub h H) i k (g0:H.get k=some (.cells [.int .i64 b,.int .i64 sh] true 0)) (g:H.get i=some (.cells [.int .i64 prn,.int .i64 f,.int .i64 pw,.int .i64 m] true 0))=>jd8 hC (vg:=.ptr k 0) (vc:=.ptr i 0) (prn:=prn) (b:=b) (sh:=sh) (f:=f) (m:=m) (h:=H) (G:=true) (K:=true) (hs.mono q) (R.mono q) p64 hf hm ⟨k,rfl,g0⟩ ⟨i,_,rfl,g⟩;have e0:(if(true:Bool)=true then gErr b sh else 0)=gErr b sh:=rfl;have e1:(if(true:Bool)=true then codeE p prn else 0)=codeE p prn:=rfl;rw[e0,e1]at ki;clear e0 e1;unfold jgy
 by_cases c:firstE [p.err,gErr b sh,codeE p prn,sampE s,placE f m]=0
 ·rw [c] at ki;by_cases cn : n < 0 \/ 100 < n
  ·have ee:confErr p b sh s prn f m n=2:=by unfold confErr;rw[c,if_neg (by decide),if_pos cn]
   rw[ee,if_neg (by decide)];unfold plA gA hitA at*;refine zf 400 B400 hC ?_;simp only[B400,zB];refine zs ?_;refine kaa (ki _ zr (h.size+2) (h.size+1) (by exact ze) (by exact ze)) ?_;by_cases q:n<0
   ·refine zs2 q @gV_u ?_;exact zr
   ·have q2:100<n:=by omega
    refine zs3 q q2 @gV_u ?_;exact zr
  have ee:confErr p b sh s prn f m n=0:=by unfold confErr;rw[c,if_neg (by decide),if_neg cn]
  rw[ee,if_pos rfl];have z:=jbM c;have ao:=jgx (f:=f) (m:=m) p64 (z _ (by simp)) (z (codeE p prn) (by simp)) (z (sampE s) (by simp)) (z (placE f m) (by simp));have g0:=z (gErr b sh) (by simp);obtain⟨A,hf',hm'⟩:=ao;have sz:=jas A.ok.nums;have or:=A.ok.nums.2.1;have hl2:=A.len;have kP:=fun H=>jbL hC (p:=p) (vp:=vp) (h:=H) A.ok.nums v1;have dE:detErr p b sh prn=0:=by
   unfold detErr askErr;rw[if_pos A.err,g0,if_pos rfl,if_pos A.hin]
  have W:∀a,-2000000<=a/\a<=2000000->∃y:Int,(∀H,HSub h H->ACalls C 390 [v,plA p vp,.int .i64 prn,.int .i64 a] H (fun r h'=>r=.int .i64 y/\h'=H))/\
    (∀H,HSub h H->ACalls C 314 [plA p vp,gA b sh,.int .i64 prn,.int .i64 y,.int .i64 1] H (fun r h'=>r=.tuple [.bool (clmW p sh prn s a),.int .i64 0]/\h'=H)):=fun a ha=>by
   have q:=(jgw (A.win a)).2;refine⟨_,fun H z=>jeY hC (hs.mono z) v1 A ha,fun H z=>?_⟩;have k:=jgO hC (b:=b) (s:=sh) (prn:=prn) (pw:=powP (sumP s (sampL p.d prn p.o.toNat) a)) (m:=1) (h:=H) (R.mono z) p64 (by unfold In64;omega) (by unfold In64;omega) (fun _=>ht A.err g0);have e:jcE p b sh prn (powP (sumP s (sampL p.d prn p.o.toNat) a)) 1=.tuple [.bool (clmW p sh prn s a),.int .i64 0]:=by
    unfold jcE;rw[if_pos dE,if_neg (by omega)];rfl
   rw[e]at k;exact k
  have eN:∃k:Nat,n=(k:Int):=⟨n.toNat,by omega⟩;obtain⟨N,rfl⟩:=eN;have eM:∃k:Nat,m=(k:Int):=⟨m.toNat,by omega⟩;obtain⟨mn,rfl⟩:=eM;rw[Int.toNat_natCast];have cs:=fun k=>show cntK p sh prn s f mn (k+1)=cntK p sh prn s f mn k+(if cfmK p sh prn s (f+(mn+(k:Nat))*p.size) (2*p.o+1).toNat=true then 1 else 0)from rfl
  have c0:cntK p sh prn s f mn 0=0:=rfl;have cle:=jmK p sh prn s f mn;generalize cntK p sh prn s f mn=CN at*;unfold plA gA hitA at*;clear dE ht z;refine zf 400 B400 hC ?_;simp only[B400,zB];refine zs ?_;refine kaa (ki _ zr (h.size+2) (h.size+1) (by exact ze) (by exact ze)) ?_;have cn1:¬(N:Int)<0:=by omega
  have cn2:¬(100:Int)<(N:Int):=by omega
  refine zs3 cn1 cn2 @gV_u ?_;refine kal (fun H hH=>?_);have g6:H.get h.size=some (.cells [.int .i64 p.d,.int .i64 p.o,.int .i64 p.pb,.int .i64 p.w,.int .i64 p.mn,.int .i64 p.mx,.int .i64 p.nz,vp] true 0):=by rw[hH];exact ze
  have g7:H.get (h.size+1)=some (.cells [.int .i64 b,.int .i64 sh] true 0):=by rw[hH];exact ze
  have g8:H.get (h.size+2)=some (.cells [.int .i64 prn,.int .i64 f,.int .i64 pw,.int .i64 (mn:Nat)] true 0):=by rw[hH];exact ze
  have hsH:HSub h H:=by rw[hH];exact zr
  clear hH;have l6:=kab g6;have l7:=kab g7;have l8:=kab g8;refine kaa (kP _) (zs ?_);refine jae (fun j t h'=>h'=H/\t 0=v/\t 4=.int .i64 (N:Nat)/\t 6=.ptr h.size 0/\t 7=.ptr (h.size+1) 0/\t 8=.ptr (h.size+2) 0/\t 13=.int .i64 p.size/\∃k:Nat,t 14=.int .i64 (CN k:Nat)/\t 15=.int .i64 (k:Nat)/\k<=N/\j=N-k) (j0:=N)
   ⟨rfl,rfl,rfl,rfl,rfl,rfl,rfl,0,by rw[c0];rfl,rfl,by omega,rfl⟩ ?_
  rintro j t h' ⟨rfl,e0,e4,e6,e7,e8,e13,k,e14,e15,hk,hj⟩;refine zs2 e4 e15 ?_;refine kag (fun ck=>?_) (fun ck=>?_)
  ·have hk':k<N:=by omega
   have csk:=cs k;have clk:=cle k;have m1:((mn:Nat)+(k:Nat):Int)*p.size<=115*8184:=Int.mul_le_mul (by omega) sz.2.1 (by omega) (by omega);have m0:(1:Int)*31<=((mn:Nat)+(k:Nat):Int)*p.size:=Int.mul_le_mul (by omega) sz.1 (by omega) (by omega);generalize hX:f+((mn:Nat)+(k:Nat):Int)*p.size=X at*;have o1:([.int .i64 p.d,.int .i64 p.o,.int .i64 p.pb,.int .i64 p.w,.int .i64 p.mn,.int .i64 p.mx,.int .i64 p.nz,vp]:List AV)[1]? =some (.int .i64 p.o):=rfl;have eT:(((2*p.o+1).toNat:Nat):Int)=2*p.o+1:=by omega
   refine zs7 e6 e8 e13 e15 g6 g8 (zI o1 @hX) ?_;have wK:=cfm_s p sh prn s X;have w0:cfmK p sh prn s X 0=false:=rfl;generalize cfmK p sh prn s X=CF at*;generalize hTn:(2*p.o+1).toNat=TN at*;refine jae (fun j t h2=>h2=h'/\t 0=v/\t 4=.int .i64 (N:Nat)/\t 6=.ptr h.size 0/\t 7=.ptr (h.size+1) 0/\t 8=.ptr (h.size+2) 0/\t 13=.int .i64 p.size/\t 14=.int .i64 (CN k:Nat)/\t 15=.int .i64 (k:Nat)/\t 16=.int .i64 X/\∃i:Nat,t 17=.bool (CF i)/\t 18=.int .i64 (X-p.o+(i:Nat))/\i<=TN/\j=TN-i) (j0:=TN)
    ⟨rfl,e0,e4,e6,e7,e8,e13,e14,e15,rfl,0,by rw[w0];rfl,congrArg (AV.int .i64) (by omega),by omega,rfl⟩ ?_
   clear e0 e4 e6 e7 e8 e13 e14 e15;rintro j2 t h2 ⟨rfl,e0,e4,e6,e7,e8,e13,e14,e15,e16,i,e17,e18,hi,hj2⟩;have sl:=(hs.mono hsH).len;by_cases q1:X-p.o+(i:Nat)<=X+p.o
   ·have hi':i<TN:=by omega
    have q0:¬X-p.o+(i:Nat)<0:=by omega
    have wKi:=wK i;by_cases q2:(s.length:Int)<X-p.o+(i:Nat)+p.size
    ·rw[decide_eq_false (by omega),Bool.false_and,Bool.or_false]at wKi;refine zs7 e0 e6 e13 e16 e18 g6 (zI o1 (zI sl (zI @gV_u (zI q0 (zI @q1 q2))))) ?_;exact⟨_,⟨e4,e7,e8,e14,e15,i+1,by rw[wKi];exact e17,by omega,by omega,rfl⟩,by omega⟩
    ·have z:=W (X-p.o+(i:Nat)) (by omega);obtain⟨y,k2',k3'⟩:=z;rw[decide_eq_true (by omega),Bool.true_and]at wKi;generalize clmW p sh prn s (X-p.o+(i:Nat))=cw at wKi k3';by_cases hcb:CF i=true
     ·rw[hcb,Bool.true_or]at wKi;rw[hcb]at e17;refine zs7 e0 e6 e7 e8 e13 e16 (zI e18 (zI g6 (zI g7 (zI g8 (zI o1 (zI sl (zI @gV_u (zI q0 (zI @q1 q2))))))))) ?_;refine kaa (k2' _ hsH) (zs ?_);refine kaa (k3' _ hsH) (zs3 e17 e18 @gV_u ?_);exact⟨_,⟨e0,e4,e6,e7,e8,e13,e14,e15,e16,i+1,by rw[wKi],by omega,by omega,rfl⟩,by omega⟩
     ·have hcb:=Bool.eq_false_iff.2 hcb;rw[hcb,Bool.false_or]at wKi;rw[hcb]at e17;refine zs7 e0 e6 e7 e8 e13 e16 (zI e18 (zI g6 (zI g7 (zI g8 (zI o1 (zI sl (zI @gV_u (zI q0 (zI @q1 q2))))))))) ?_;refine kaa (k2' _ hsH) (zs ?_);refine kaa (k3' _ hsH) (zs3 e17 e18 @gV_u ?_);exact⟨_,⟨e0,e4,e6,e7,e8,e13,e14,e15,e16,i+1,by rw[wKi],by omega,by omega,rfl⟩,by omega⟩
   ·obtain rfl:i=TN:=by omega
    by_cases hcb:CF i=true
    ·rw[hcb,if_pos rfl]at csk;rw[hcb]at e17;refine zs7 e6 e14 e15 e16 e17 e18 (zI g6 (zI o1 (zI @gV_u @q1))) ?_;exact⟨_,⟨e0,e4,e7,e8,e13,k+1,by rw[csk];simp,by simp,by omega,rfl⟩,by omega⟩
    ·have hcb:=Bool.eq_false_iff.2 hcb;rw[hcb,if_neg (by decide),Nat.add_zero]at csk;rw[hcb]at e17;refine zs7 e6 e15 e16 e17 e18 g6 (zI o1 (zI @gV_u @q1)) ?_;exact⟨_,⟨e0,e4,e7,e8,e13,k+1,by rw[csk];exact e14,by simp,by omega,rfl⟩,by omega⟩
  ·obtain rfl:k=N:=by omega
   refine zs1 e14 ?_;exact hsH
 ·have ee:confErr p b sh s prn f m n=firstE [p.err,gErr b sh,codeE p prn,sampE s,placE f m]:=by unfold confErr;rw[if_pos c]
  rw[ee,if_neg c];clear ee;generalize firstE [p.err,gErr b sh,codeE p prn,sampE s,placE f m]=E at*;unfold plA gA hitA at*;refine zf 400 B400 hC ?_;simp only[B400,zB];refine zs ?_;refine kaa (ki _ zr (h.size+2) (h.size+1) (by exact ze) (by exact ze)) (zs1 @c ?_);exact zr
theorem jnv{l:List (Int×Int)}(h:smE l m=0):l.length<=m/\∀x∈l,inS 1048576 x:=by
 unfold smE at h;split at h
 ·omega
 ·split at h
  ·exact⟨by omega,by assumption⟩
  ·omega
theorem jlA(l:List (Int×Int))(m:Nat):smE l m=0\/smE l m=2\/smE l m=4:=by
 unfold smE;split
 ·simp
 ·split<;>simp
theorem jru:∀n:Nat,n<65->1<=n->(jbI n↔bitsA .and .i64 (n:Int) ((n:Int)-1)=0):=by decide+kernel
theorem jrv(b:Int):([1,2,4,8,16,32,64].any fun y=>b==y)=decide (jbI b):=by
 have k:([1,2,4,8,16,32,64].any fun y=>b==y)=true↔jbI b:=by unfold jbI;simp
 by_cases c:jbI b
 ·rw[decide_eq_true c];exact k.2 c
 ·rw[decide_eq_false c];exact Bool.eq_false_iff.2 fun q=>c (k.1 q)
theorem joI{l:List (Int×Int)}{k:Nat}(h:k<m):(jc6 l b k++List.replicate (m-k) 0).set k (stepP l b k)=jc6 l b (k+1)++List.replicate (m-(k+1)) 0:=by
 rw[List.set_append_right _ _ (by rw[jbA];omega),jbA,Nat.sub_self,show m-k=m-(k+1)+1 by omega,List.replicate_succ,List.set_cons_zero,jhS,List.append_assoc];rfl
theorem jnw:U32 ((j:Int)*(4294967296/b)% 4294967296):=by unfold U32;omega
theorem joJ(hC:Has C TA){v:AV}{l:List (Int×Int)}{b:Int}{h:Heap}(hl:SI h v l)(hb:In64 b):
  ACalls C 270 [v,.int .i64 b] h (fun r h'=>∃w,r=jah w (jbV l b)/\HSub h h'/\RI h' w (if jbV l b=0 then jc6 l b b.toNat else[])):=by
 have k1:=fun h1 (q:HSub h h1)=>joc hC (most:=16) (hl.mono q) (by omega);have cc:=jlA l 16;by_cases c:smE l 16=0
 ·have z:=jnv c;rw[c]at k1;have k2:=fun(st:Int) (hst:U32 st) h1 (q:HSub h h1)=>jqa (st:=st) hC (hl.mono q) z.1 z.2 hst;have k3:=fun p h=>jod (p:=p) (h:=h) hC;have k4:=fun h1 (q:RI h1 (.slice h.size 0 7 (.known 7)) [1,2,4,8,16,32,64])=>jby hC (x:=b) q;simp only[jrv]at k4;refine zf 270 B270 hC ?_;simp only[B270,zB];refine zs ?_;refine kaa (k1 _ (kaf _)) (zs ?_);refine kaa (k4 _ (kah (get_push_eq rfl) ⟨rfl,by decide⟩ (by decide))) ?_;by_cases c2:jbI b
  ·have e:jbV l b=0:=by unfold jbV;rw[if_neg (by omega),if_pos c2]
   have hb2:1<=b/\b<=64:=by unfold jbI at c2;omega
   obtain⟨m,rfl⟩:=Int.eq_ofNat_of_zero_le (show 0<=b by omega);rw[e,if_pos rfl,Int.toNat_natCast];refine zs2 @c2 @jaV ?_;refine jae (fun j t h'=>HSub h h'/\h.size+1<h'.size/\∃k:Nat,h'.get (h.size+1)=some (.cells (ints (jc6 l m k++List.replicate (m-k) 0)) true 0)/\t 0=v/\t 1=.int .i64 (m:Nat)/\t 7=.slice (h.size+1) 0 m (.known m)/\t 21=.int .i64 (m:Nat)/\t 22=.int .i64 (k:Nat)/\k<=m/\j=m-k) (j0:=m)
    ⟨(kac _ _).push _,by simp,0,by refine zs ?_;rfl,rfl,rfl,rfl,rfl,rfl,by omega,rfl⟩ ?_
   rintro j t h1 ⟨s1,hz,k,gb,e0,e1,e7,e21,e22,hk,hj⟩;refine zs2 e21 e22 ?_;refine kag (fun c3=>?_) (fun c3=>?_)
   ·have hk':k<m:=by omega
    have hu:=jnw (j:=k) (b:=(m:Int));have k2:=k2 _ hu h1 s1;have es:stepP l m k=powP (spinK l ((k:Int)*(4294967296/(m:Int))% 4294967296) l.length):=rfl;have sz:=joI (l:=l) (b:=(m:Int)) hk';rw[es]at sz;have q0:(4294967296:Int).tdiv (m:Int)=4294967296/(m:Int):=Int.tdiv_eq_ediv_of_nonneg (by decide);have Q1:0<=4294967296/(m:Int):=Int.ediv_nonneg (by decide) (by omega);have Q2:4294967296/(m:Int)<=4294967296:=Int.ediv_le_self _ (by decide);have kQ:0<=(k:Int)*(4294967296/(m:Int))/\(k:Int)*(4294967296/(m:Int))<=64*4294967296:=⟨Int.mul_nonneg (by omega) Q1,Int.mul_le_mul (by omega) Q2 Q1 (by decide)⟩
    have zl:(jc6 l m k++List.replicate (m-k) 0).length=m:=by simp[jbA];omega
    generalize hQ:4294967296/(m:Int)=Q at*;refine zs7 e0 e1 e7 e22 q0 @hQ @jg2 ?_;refine kaa k2 (zs ?_);refine kaa (k3 _ _) (zs7 e0 e1 e7 e21 e22 gb (zI sz zl) ?_);exact⟨_,⟨(zh s1),hz,k+1,rfl,by simp,by omega,rfl⟩,by omega⟩
   ·have ek:k=m:=by omega
    subst ek;rw[Nat.sub_self,List.replicate_zero,List.append_nil]at gb;refine zs1 e7 ?_;exact⟨_,rfl,s1,kah gb ⟨(jbA _ _ _).symm,by omega⟩ (Nat.le_refl _)⟩
  ·have e:jbV l b=3:=by unfold jbV;rw[if_neg (by omega),if_neg c2]
   rw[e,if_neg (by decide)];refine zs1 @c2 ?_;exact⟨_,rfl,kac _ _,kas⟩
 ·have e:jbV l b=smE l 16:=by unfold jbV;rw[if_pos c]
  rw[e,if_neg c];generalize smE l 16=e at*;refine zf 270 B270 hC ?_;simp only[B270,zB];refine zs ?_;refine kaa (k1 _ (kaf _)) (zs1 c ?_);exact⟨_,rfl,kaf _,kas⟩
theorem jig(hC:Has C TA){v:AV}{l:List (Int×Int)}{b:Int}{h:Heap}(hl:SI h v l)(hb:In64 b):
  ACalls C 271 [v,.int .i64 b] h (fun r h'=>∃w,r=jah w (jbV l b)/\HSub h h'/\RI h' w (if jbV l b=0 then jc6 l b b.toNat else[])):=by
 unfold In64 at hb;have k1:=fun h1 (q:HSub h h1)=>jmd hC (most:=16) (hl.mono q) (by omega);have cc:=jlA l 16;by_cases c:smE l 16=0
 ·have z:=jnv c;rw[c]at k1;have k2:=fun(st:Int) (hst:U32 st) h1 (q:HSub h h1)=>joz (st:=st) hC (hl.mono q) z.1 z.2 hst;have k3:=fun p h=>jme (p:=p) (h:=h) hC;by_cases c1:b<1\/64<b
  ·have nb:¬jbI b:=by unfold jbI;omega
   have e:jbV l b=3:=by unfold jbV;rw[if_neg (by omega),if_neg nb]
   rw[e,if_neg (by decide)];refine zf 271 B271 hC ?_;simp only[B271,zB];refine zs ?_;refine kaa (k1 _ (kaf _)) ?_
   (repeat' (first|(refine kag (fun _=>?_) (fun _=>?_))|(refine zs1 @gV_u ?_)))
   all_goals first
    |(exfalso;omega)
    |exact⟨_,rfl,kaf _,kas⟩
  ·obtain⟨m,rfl⟩:=Int.eq_ofNat_of_zero_le (show 0<=b by omega);have ab:=jru m (by omega) (by omega);refine zf 271 B271 hC ?_;simp only[B271,zB];refine zs ?_;refine kaa (k1 _ (kaf _)) ?_;by_cases c2:jbI (m:Int)
   ·have e:jbV l m=0:=by unfold jbV;rw[if_neg (by omega),if_pos c2]
    have ab:=ab.1 c2;rw[e,if_pos rfl,Int.toNat_natCast];refine zs1 ab ?_;refine jae (fun j t h'=>∃k:Nat,GrwI h h' (t 7) (jc6 l m k)/\t 0=v/\t 1=.int .i64 (m:Nat)/\t 8=.int .i64 (k:Nat)/\k<=m/\j=m-k) (j0:=m)
     ⟨0,kba _,rfl,rfl,rfl,by omega,rfl⟩ ?_
    rintro j t h1 ⟨k,A,e0,e1,e8,hk,hj⟩;refine zs2 e1 e8 ?_;refine kag (fun c3=>?_) (fun c3=>?_)
    ·have hk':k<m:=by omega
     have hu:=jnw (j:=k) (b:=(m:Int));have k2:=k2 _ hu h1 A.sub;have es:stepP l m k=powP (spinK l ((k:Int)*(4294967296/(m:Int))% 4294967296) l.length):=rfl;have su:=jhS l m k;have sl:=jbA l m k;rw[es]at su;have q0:(4294967296:Int).tdiv (m:Int)=4294967296/(m:Int):=Int.tdiv_eq_ediv_of_nonneg (by decide);have Q1:0<=4294967296/(m:Int):=Int.ediv_nonneg (by decide) (by omega);have Q2:4294967296/(m:Int)<=4294967296:=Int.ediv_le_self _ (by decide);have kQ:0<=(k:Int)*(4294967296/(m:Int))/\(k:Int)*(4294967296/(m:Int))<=64*4294967296:=⟨Int.mul_nonneg (by omega) Q1,Int.mul_le_mul (by omega) Q2 Q1 (by decide)⟩
     have ap:=fun x (H:Heap) (hH:HSub h1 H)=>A.app (x:=x) H hH (by omega);have Ac:=fun x c=>A.snoc (x:=x) (kac h1 c) (by omega);generalize hQ:4294967296/(m:Int)=Q at*;refine zs6 e0 e1 e8 q0 @hQ @jg2 ?_;refine kaa k2 (zs ?_);refine kaa (k3 _ _) (zs7 e0 e1 e8 @cont_slice @contB_one ap (Eq.symm su) ?_);have Ac:=Ac (powP (spinK l ((k:Int)*Q% 4294967296) l.length)) (.cells [.int .i64 (powP (spinK l ((k:Int)*Q% 4294967296) l.length))] true 0);rw[<-su]at Ac;exact⟨_,⟨k+1,Ac,by simp,by omega,rfl⟩,by omega⟩
    ·have ek:k=m:=by omega
     subst ek;refine zs ?_;exact⟨_,rfl,A.sub,A.ri⟩
   ·have e:jbV l m=3:=by unfold jbV;rw[if_neg (by omega),if_neg c2]
    have ab:¬bitsA BinOp.and IntKind.i64 (m:Int) ((m:Int)-1)=0:=fun q=>c2 (ab.2 q);rw[e,if_neg (by decide)];refine zs1 ab ?_;exact⟨_,rfl,kaf _,kas⟩
 ·have e:jbV l b=smE l 16:=by unfold jbV;rw[if_pos c]
  rw[e,if_neg c];generalize smE l 16=e at*;refine zf 271 B271 hC ?_;simp only[B271,zB];refine zs ?_;refine kaa (k1 _ (kaf _)) (zs1 c ?_);exact⟨_,rfl,kaf _,kas⟩
def winE(s:List (Int×Int))(d o p a many:Int):Int:=manyE (bankErr s d o p a) many 1000
theorem jkd{k L:Nat}(hk:k<=1000)(hL:L<=8184):0<=(k:Int)*(L:Int)/\(k:Int)*(L:Int)<=8184000:=by
 have:k*L<=1000*8184:=Nat.mul_le_mul hk hL;have e:(k:Int)*(L:Int)=((k*L:Nat):Int):=(Int.natCast_mul k L).symm;omega
theorem jke(hC:Has C TA){v:AV}{s:List (Int×Int)}{d o p a many:Int}{h:Heap}(hs:SI h v s)(hd:In64 d)(ho:In64 o)(hp:In64 p)(ha:In64 a)(hm:In64 many):
  ACalls C 280 [v,.int .i64 d,.int .i64 o,.int .i64 p,.int .i64 a,.int .i64 many] h (fun r h'=>∃w,r=jah w (winE s d o p a many)/\HSub h h'/\SI h' w (if winE s d o p a many=0 then bankL s (sampL d p o.toNat) a (sampL d p o.toNat).length many.toNat else[])):=by
 have kM:=jfK hC hs hd ho hp ha;unfold In64 at hm;unfold winE manyE;refine zf 280 B280 hC ?_;simp only[B280,zB];refine zs ?_;refine kad kM ?_;rintro r h1 ⟨s1,w,rfl,g0,g1⟩;by_cases c:bankErr s d o p a=0
 ·have ok:=jdE c;have R:=g0 c;rw[c,if_neg (by decide)];by_cases c2:many<0\/1000<many
  ·rw[if_pos c2];refine zs1 @jah.eq_1 ?_
   (repeat' (first|(refine kag (fun _=>?_) (fun _=>?_))|(refine zs1 @gV_u ?_)))
   all_goals first
    |(exfalso;omega)
    |exact⟨_,rfl,(zh s1),ka7⟩
  ·obtain⟨m,rfl⟩:=Int.eq_ofNat_of_zero_le (show 0<=many by omega);have kS:=fun(b:Int) (hb: -100000000<=b/\b<=100000000) h2 (q:HSub h1 h2)=>jh1 hC (a:=b) (hs.mono (s1.trans q)) (R.mono q) ok.2.1 (jaJ _ _ _) (by have:=jeI ok.2.2.1;omega) ok.1 hb;have sl:=jeI ok.2.2.1;rw[if_neg c2,if_pos rfl,Int.toNat_natCast];generalize sampL d p o.toNat=c at*;refine zs2 @jah.eq_1 @gV_u ?_;refine jae (fun j t h'=>∃k:Nat,GrwS h1 h' (t 16) (bankL s c a c.length k)/\t 0=v/\t 4=.int .i64 a/\t 5=.int .i64 (m:Nat)/\t 14=w/\t 17=.int .i64 (k:Nat)/\k<=m/\j=m-k) (j0:=m)
    ⟨0,kbF _,rfl,rfl,rfl,rfl,rfl,by omega,rfl⟩ ?_
   rintro j t h2 ⟨k,A,e0,e4,e5,e14,e17,hk,hj⟩;refine zs2 e5 e17 ?_;refine kag (fun c3=>?_) (fun c3=>?_)
   ·have hk':k<m:=by omega
    have wp:=jkd (k:=k) (by omega) sl;have kS:=kS (a+(k:Nat)*(c.length:Nat)) (by omega) h2 A.sub;have bs:=ji1 s c a c.length k;have bl:=ja9 s c a c.length k;have Rl:=(R.mono A.sub).len;generalize hkc:(k:Int)*(c.length:Int)=kc at*;generalize sumP s c (a+kc)=q at*;obtain⟨qx,qy⟩:=q;unfold smp at kS;dsimp only at kS;have ap:=A.app (x:=qx) (y:=qy);have Ac:=A.snoc (x:=qx) (y:=qy) (kac h2 (.cells [.int .i64 qx,.int .i64 qy] true 0)) (by omega);rw[<-bs]at Ac;refine zs6 e0 e4 e14 e17 Rl @hkc ?_;refine kaa kS (zs7 e0 e4 e5 e14 e17 @cont_slice (zI @contB_two (zI ap (Eq.symm bs))) ?_)
    exact⟨_,⟨k+1,Ac,by simp,by omega,rfl⟩,by omega⟩
   ·have ek:k=m:=by omega
    subst ek;refine zs ?_;exact⟨_,rfl,s1.trans A.sub,A.si⟩
 ·rw[g1 c,if_pos c,if_neg c];generalize bankErr s d o p a=e at*;refine zs2 @jah.eq_1 c ?_;exact⟨_,rfl,(zh s1),ka7⟩
theorem jih(hC:Has C TA){a L m:Int}{h:Heap}:ACalls C 298 [.int .i64 a,.int .i64 L,.int .i64 m] h (fun r h'=>r=.func 304 [] [.ptr (h.size+2) 0,.ptr h.size 0,.ptr (h.size+1) 0]/\
  h'=((h.push (.cells [.int .i64 a] true 0)).push (.cells [.int .i64 L] true 0)).push (.cells [.int .i64 m] true 0)):=by
 refine zf 298 B298 hC ?_;simp only[B298,zB];exact ze
theorem jii(hC:Has C TA){l bm ba bs m L:Nat}{a:Int}{h:Heap}(hm:m<=1000)(hL:L<=8184)(ha: -10000000<=a/\a<=10000000)(J:Nat->Heap->Prop)(D:Heap->Prop)(h0:J 0 h)
  (hb:∀k h',J k h'->h'.get bm=some (.cells [.int .i64 (m:Nat)] true 0)/\h'.get ba=some (.cells [.int .i64 a] true 0)/\h'.get bs=some (.cells [.int .i64 (L:Nat)] true 0))
  (hy:∀k h',J k h'->k<m->jfu C l [.int .i64 (k:Nat),.int .i64 (a+(k:Nat)*(L:Nat))] h' (fun r h''=>(r=.bool true/\J (k+1) h'')\/(r=.bool false/\D h'')))
  (hd:∀h',J m h'->D h'):ACalls C 304 [.yield l,.ptr bm 0,.ptr ba 0,.ptr bs 0] h (fun _ h'=>D h'):=by
 obtain⟨g0,g1,g2⟩:=hb 0 h h0;refine zf 304 B304 hC ?_;simp only[B304,zB];refine zs1 g0 ?_;refine jae (fun j t h'=>∃k:Nat,J k h'/\t 0=.yield l/\t 2=.ptr ba 0/\t 3=.ptr bs 0/\t 6=.int .i64 (m:Nat)/\t 7=.int .i64 (k:Nat)/\k<=m/\j=m-k) (j0:=m) ⟨0,h0,rfl,rfl,rfl,rfl,rfl,by omega,rfl⟩ ?_;rintro j t h' ⟨k,hJ,e0,e2,e3,e6,e7,hk,hj⟩;obtain⟨g0,g1,g2⟩:=hb k h' hJ;refine zs2 e6 e7 ?_;refine kag (fun c=>?_) (fun c=>?_)
 ·have hk':k<m:=by omega
  have wp:=jkd (k:=k) (by omega) hL;have hy:=hy k h' hJ hk';generalize hkc:(k:Int)*(L:Int)=kc at*;refine zs7 e0 e2 e3 e7 g1 g2 @hkc ?_;refine kaE hy ?_;rintro r h'' (⟨rfl,hJ'⟩|⟨rfl,hD⟩)
  ·refine zs5 e0 e2 e3 e6 e7 ?_;exact⟨_,⟨k+1,hJ',by simp,by omega,rfl⟩,by omega⟩
  ·refine zs ?_;exact hD
 ·have ek:k=m:=by omega
  subst ek;refine zs ?_;exact hd _ hJ
theorem jlB(hC:Has C TA){v:AV}{s:List (Int×Int)}{d o p a many:Int}{h:Heap}(hs:SI h v s)(hd:In64 d)(ho:In64 o)(hp:In64 p)(ha:In64 a)(hm:In64 many):
  ACalls C 279 [v,.int .i64 d,.int .i64 o,.int .i64 p,.int .i64 a,.int .i64 many] h (fun r h'=>∃w,r=jah w (winE s d o p a many)/\HSub h h'/\SI h' w (if winE s d o p a many=0 then bankL s (sampL d p o.toNat) a (sampL d p o.toNat).length many.toNat else[])):=by
 have kM:=jes hC hs hd ho hp ha;have v1:=hs.one;unfold In64 at hm;unfold winE manyE;refine zf 279 B279 hC ?_;simp only[B279,zB];refine zs ?_;refine kad kM ?_;rintro r h1 ⟨s1,x,rfl,g0,g1⟩;by_cases c:bankErr s d o p a=0
 ·have ok:=jdE c;obtain⟨w,rfl,R⟩:=g0 c;have w1:=R.one;have sb:=fun(H:Heap) i=>jeH (H:=H) (i:=i) (a:=.nilslice) (b:=.nilslice) v1 w1;rw[c,if_neg (by decide)];unfold corA;by_cases c2:many<0\/1000<many
  ·rw[if_pos c2];refine zs2 @corE.eq_1 sb ?_
   (repeat' (first|(refine kag (fun _=>?_) (fun _=>?_))|(refine zs1 @gV_u ?_)))
   all_goals first
    |(exfalso;omega)
    |exact⟨_,rfl,(zh s1),ka7⟩
  ·obtain⟨m,rfl⟩:=Int.eq_ofNat_of_zero_le (show 0<=many by omega);have sl:=jeI ok.2.2.1;have kS:=fun(b:Int) (hb: -100000000<=b/\b<=100000000) h2 (q:HSub h1 h2)=>jfa hC (a:=b) (hs.mono (s1.trans q)) (R.mono q) ok.2.1 (jaJ _ _ _) (by omega) hb;have hz:=jcp (p:=(0,0)) (n:=m);simp only at hz;rw[if_neg c2,if_pos rfl,Int.toNat_natCast];generalize sampL d p o.toNat=c at*;unfold corA at kS;refine zs5 @corE.eq_1 sb @gV_u hz @R.len ?_;refine kal (fun H hH=>?_);have N:H.size=h1.size+3:=by rw[hH];exact ze
   have gv:H.get h1.size=some (.cells [v,w] true 0):=by rw[hH];exact ze
   have go:H.get (h1.size+1)=some (.cells (smps (List.replicate m (0,0))) true 0):=by rw[hH];exact ze
   have gs:H.get (h1.size+2)=some (.cells [.slice (h1.size+1) 0 m (.known m)] true 0):=by rw[hH];exact ze
   have hsH:HSub h1 H:=by
    rw[hH];exact zr
   clear hH;refine kaa (jih hC) (zs ?_);refine jcu (D:=fun h'=>∃R,h'.get (H.size+4)=some (.loop R)/\HSub h1 h'/\h'.get (H.size+3)=some (.defd true)/\H.size+5<=h'.size/\R.state=.ready/\R.pend=none/\
    h'.get (h1.size+2)=some (.cells [.slice (h1.size+1) 0 m (.known m)] true 0)/\h'.get (h1.size+1)=some (.cells (smps (bankL s c a c.length m)) true 0)) ?_ ?_
   ·refine kaw (fun R hR=>?_);show ACalls C 304 [.yield (H.size+4),.ptr (H.size+2) 0,.ptr H.size 0,.ptr (H.size+1) 0] _ _;have rs:R.state=.ready:=by rw[hR]
    have rp:R.pend=none:=by rw[hR]
    have rb:=jeo rs rp;refine jii hC (m:=m) (L:=c.length) (a:=a) (by omega) sl (by omega) (fun k h'=>k<=m/\h'.get (H.size+4)=some (.loop R)/\h'.get (H.size+3)=some (.defd true)/\
     h'.get (H.size+2)=some (.cells [.int .i64 (m:Nat)] true 0)/\h'.get H.size=some (.cells [.int .i64 a] true 0)/\h'.get (H.size+1)=some (.cells [.int .i64 (c.length:Nat)] true 0)/\HSub h1 h'/\H.size+5<=h'.size/\
     h'.get h1.size=some (.cells [v,w] true 0)/\h'.get (h1.size+2)=some (.cells [.slice (h1.size+1) 0 m (.known m)] true 0)/\h'.get (h1.size+1)=some (.cells (smps (bankL s c a c.length k++List.replicate (m-k) (0,0))) true 0)) _ ?_ ?_ ?_ ?_
    ·refine⟨by omega,?_,?_,?_,?_,?_,?_,?_,?_,?_,?_⟩
     ·exact ze
     ·exact ze
     ·exact ze
     ·exact ze
     ·exact ze
     ·exact((((hsH.push _).push _).push _).push _).push _
     ·refine zs ?_;omega
     ·exact ze1 gv
     ·exact ze1 gs
     ·refine zs1 go ?_;rfl
    ·rintro k h' ⟨_,_,_,q0,q1,q2,_⟩;exact⟨q0,q1,q2⟩
    ·rintro k h' ⟨hk,hlp,hd,p0,p1,p2,hsub,hsz,gv,gs,go⟩ hk';have wp:=jkd (k:=k) (by omega) sl;have bs:=jhT (s:=s) (c:=c) (a:=a) (w:=(c.length:Int)) hk';have hwl:(bankL s c a c.length k++List.replicate (m-k) (0,0)).length=m:=by simp[ja9];omega
     have hsl:(smps (bankL s c a c.length k++List.replicate (m-k) (0,0))).length=m*2:=by rw[jbJ,hwl]
     have hset:=je6 (l:=bankL s c a c.length k++List.replicate (m-k) (0,0)) (k:=k) (p:=sumP s c (a+(k:Nat)*(c.length:Nat))) (by rw[hwl];exact hk');rw[bs]at hset;have kS:=kS (a+(k:Nat)*(c.length:Nat)) (by omega);generalize hkc:a+(k:Int)*(c.length:Int)=kc at*;generalize sumP s c kc=q at*;obtain⟨qx,qy⟩:=q;unfold smp at kS;dsimp only at kS hset;refine jcZ (r:=R) (by exact ze1 hlp) rs (by rw[hR];rfl) ?_;simp only[congrArg ALoop.nt hR,congrArg ALoop.t hR,congrArg ALoop.params hR,congrArg ALoop.assign hR,congrArg ALoop.body hR];refine zs4 hlp rs gv gs ?_
     refine kaa (kS _ (hsub.put (by omega) _)) (zs5 hlp gs go hset hsl ?_);exact .inl ⟨by omega,by rw[rb],hd,p0,p1,p2,((hsub.put (by omega) _).put (by omega) _).put (by omega) _,by omega,gv⟩
    ·rintro h' ⟨_,hlp,hd,p0,p1,p2,hsub,hsz,gv,gs,go⟩;rw[Nat.sub_self,List.replicate_zero,List.append_nil]at go;exact⟨R,hlp,hsub,hd,hsz,rs,rp,gs,go⟩
   ·rintro h' ⟨R,hlp,hsub,hd,hsz,hst,hpd,gs,go⟩;refine⟨R,hlp,by rw[hst];decide,?_⟩;rw[hpd];show jcC _ _ .normal _;refine zs3 hd gs go ?_;refine⟨_,rfl,((s1.trans hsub).put (by have:=s1.size;omega) _).put (by have:=s1.size;omega) _,kaS (wr:=true) (u:=0) ?_ ⟨(ja9 _ _ _ _ _).symm,by omega⟩ (Nat.le_refl _)⟩;exact ze1 go
 ·rw[g1 c,if_pos c,if_neg c];unfold corA;generalize bankErr s d o p a=e at*;refine zs2 @corE.eq_1 c ?_;exact⟨_,rfl,(zh s1),ka7⟩
theorem bst_s(l:List Int)(k:Nat):bstK l (k+1)=if l.getD (bstK l k) 0<l.getD k 0 then k else bstK l k:=rfl
theorem jqq(l:List Int):∀k i,i<k->l.getD i 0<=l.getD (bstK l k) 0
 |0,_,h=>absurd h (Nat.not_lt_zero _)
 | k + 1, i, h => by
  rw[bst_s];rcases Nat.lt_or_ge i k with c|c
  ·have:=jqq l k i c;split<;>omega
  ·obtain rfl:i=k:=by omega
   split<;>omega
theorem jlC(l:List Int):∀k i,i<bstK l k->l.getD i 0<l.getD (bstK l k) 0
 |0,i,h=>absurd h (Nat.not_lt_zero _)
 |k+1,i,h=>by
  rw[bst_s]at h|-;by_cases c:l.getD (bstK l k) 0<l.getD k 0
  ·rw[if_pos c]at h|-;have:=jqq l k i h;omega
  ·rw[if_neg c]at h|-;exact jlC l k i h
theorem jsr{k:Nat}(h0:0<k)(hk:k<=l.length):idxI (fun y=>l.getD (bstK l k) 0==y) l=(bstK l k:Nat):=by
 have hb:bstK l k<l.length:=by rcases jgv l k with q|q<;>omega
 have hf:=jlC l k;generalize bstK l k=b at*;have q:=jgf (p:=fun y=>l.getD b 0==y) hb (by
  rw[List.any_eq_false];intro x hx;obtain⟨i,hi,rfl⟩:=List.getElem_of_mem hx;rw[List.length_take]at hi;have:=hf i (by omega);rw[List.getElem_take];have e:l.getD i 0=l[i]:=by simp[show i<l.length by omega]
  rw[e]at this;simp only[beq_iff_eq];omega) (by simp)
 unfold idxI;rw[if_pos q.1,q.2]
def stepErr(p:PlanP)(s:List (Int×Int))(prn f m b:Int):Int:=if firstE [p.err,codeE p prn,sampE s,placE f m]≠0 then firstE [p.err,codeE p prn,sampE s,placE f m]else if ¬jbI b then 3 else if s.length<f+m*p.size then 16 else 0
def stpL(p:PlanP)(s:List (Int×Int))(prn f m b:Int):List Int:=jc6 (bankL s (sampL p.d prn p.o.toNat) f (sampL p.d prn p.o.toNat).length m.toNat) b b.toNat
def jij(p:PlanP)(s:List (Int×Int))(prn f m b:Int):AV:=.tuple [.int .i64 (if stepErr p s prn f m b=0 then(bstK (stpL p s prn f m b) b.toNat:Nat)else 0),.int .i64 (stepErr p s prn f m b)]
theorem AcOk.win0{m:Int}(A:AcOk p s prn)(hf:0<=f/\f<=1048576)(hm:1<=m/\m<=16):winE s p.d p.o prn f m=0:=by
 unfold winE manyE;rw[A.bank (by omega),if_neg (by decide),if_neg (by omega)]
theorem AcOk.stp0{m w:Int}(A:AcOk p s prn)(hm:1<=m/\m<=16)(hb:jbI b):jbV (bankL s (sampL p.d prn p.o.toNat) f w m.toNat) b=0:=by
 have e:smE (bankL s (sampL p.d prn p.o.toNat) f w m.toNat) 16=0:=by
  unfold smE;rw[if_neg (by rw[ja9];omega),if_pos];intro x hx;unfold bankL at hx;obtain⟨j,_,rfl⟩:=List.mem_map.1 hx;exact jjS (A.win _) (by decide)
 unfold jbV;rw[e,if_neg (by decide),if_pos hb]
theorem jrw(hC:Has C TA)(hl:RI h v l)(h0:0<l.length):ACalls C 407 [v] h (fun r h'=>r=.int .i64 (l.getD (bstK l l.length) 0)/\h'=h):=by
 have hlt:=hl.lt;have l0:=hl.load h0;have ix:=hl.idx (kk:=.i64) (k:=0) ⟨by omega,by omega⟩;have b1:bstK l 1=0:=by rw[bst_s];split<;>rfl
 have bs:=bst_s l;have bl:=jgv l;generalize bstK l=BK at*;refine zf 407 B407 hC ?_;simp only[B407,zB];refine zs3 @hl.len ix l0 ?_;refine jae (fun j t h'=>h'=h/\t 0=v/\∃k:Nat,t 3=.int .i64 (l.getD (BK k) 0)/\t 4=.int .i64 (k:Nat)/\1<=k/\k<=l.length/\j=l.length-k) (j0:=l.length-1)
  ⟨rfl,rfl,1,by rw[b1];rfl,rfl,by omega,by omega,rfl⟩ ?_
 rintro j t h' ⟨rfl,e0,k,e3,e4,hk1,hk,hj⟩;refine zs3 e0 e4 @hl.len ?_;refine kag (fun c=>?_) (fun c=>?_)
 ·have hk':k<l.length:=by omega
  have ld:=hl.load hk';have bsk:=bs k;refine zs5 e0 e3 e4 @hl.idx ld ?_;refine⟨_,⟨k+1,?_,by simp,by omega,by omega,rfl⟩,by omega⟩;rw[bsk];split<;>omega
 ·obtain rfl:k=l.length:=by omega
  exact ze1 e3
theorem joK(hC:Has C TA){v vp:AV}{p:PlanP}{s:List (Int×Int)}{prn f pw m b:Int}{h:Heap}(hs:SI h v s)(R:RI h vp p.prns)(p64:p.ok64)(hf:In64 f)(hm:In64 m)(hb:In64 b):
  ACalls C 401 [v,plA p vp,hitA prn f pw m,.int .i64 b] h (fun r h'=>r=jij p s prn f m b/\HSub h h'):=by
 have v1:=R.one;have kp:=fun H (q:HSub h H)=>jbW hC (h:=H) (p:=p) ⟨vp,rfl,R.mono q⟩ p64;have kc:=fun H (q:HSub h H)=>jet hC (h:=H) (p:=p) (prn:=prn) (R.mono q);have ks:=fun H (q:HSub h H)=>jcf hC (h:=H) (hs.mono q);have kl:=fun H=>jcq hC (h:=H) (f:=f) (m:=m);have k1:=fun H i u (g:H.get i=some (.cells (ints [p.err,codeE p prn,sampE s,placE f m]) true u))=>jcL hC (h:=H) (l:=[p.err,codeE p prn,sampE s,placE f m]) (v:=.slice i 0 4 (.known 4)) (kah g ⟨rfl,by simp⟩ (by simp)) (by simp);have kb:=fun H i u (g:H.get i=some (.cells (ints [1,2,4,8,16,32,64]) true u))=>jby hC (h:=H) (x:=b) (l:=[1,2,4,8,16,32,64]) (v:=.slice i 0 7 (.known 7)) (kah g ⟨rfl,by simp⟩ (by simp))
 have eb:([1,2,4,8,16,32,64].any fun y=>b==y)=decide (jbI b):=by
  rw[Bool.eq_iff_iff,decide_eq_true_eq];simp[jbI]
 rw[eb]at kb;clear eb;unfold jij;by_cases c:firstE [p.err,codeE p prn,sampE s,placE f m]=0
 ·rw[c]at k1;have z:=jbM c;have ao:=jgx (f:=f) (m:=m) p64 (z _ (by simp)) (z (codeE p prn) (by simp)) (z (sampE s) (by simp)) (z (placE f m) (by simp));obtain⟨A,hf',hm'⟩:=ao;have sz:=jas A.ok.nums;have hl2:=A.len;have sl:=hs.len;have kP:=fun H=>jcr hC (p:=p) (vp:=vp) (h:=H) v1 A.ok.nums;have kW:=fun H (q:HSub h H)=>jlB hC (h:=H) (a:=f) (many:=m) (hs.mono q) A.p64.1 A.p64.2.1 (A.p64.2.2.2.2.2.2.2 _ A.hin) hf hm;rw[A.win0 hf' hm',if_pos rfl]at kW;have e0:stepErr p s prn f m b=if ¬jbI b then 3 else if s.length<f+m*p.size then 16 else 0:=by unfold stepErr;rw[c,if_neg (by decide)]
  have m0:0<=m*p.size:=Int.mul_nonneg (by omega) (by omega);have m1:m*p.size<=16*8184:=Int.mul_le_mul hm'.2 sz.2.1 (by omega) (by omega);by_cases cb:jbI b
  ·have kS:=fun w H (S:SI H w (bankL s (sampL p.d prn p.o.toNat) f (sampL p.d prn p.o.toNat).length m.toNat))=>joJ hC (h:=H) S hb;rw[A.stp0 hm' cb,if_pos rfl]at kS;have b0:0<b:=by unfold jbI at cb;omega
   have ll:(stpL p s prn f m b).length=b.toNat:=jbA _ _ _;have es:jc6 (bankL s (sampL p.d prn p.o.toNat) f (sampL p.d prn p.o.toNat).length m.toNat) b b.toNat=stpL p s prn f m b:=rfl;rw[es]at kS;have bi:=jsr (l:=stpL p s prn f m b) (k:=b.toNat) (by omega) (by omega);generalize stpL p s prn f m b=L at*;generalize bankL s (sampL p.d prn p.o.toNat) f (sampL p.d prn p.o.toNat).length m.toNat=BL at*;have kM:=fun w H (S:RI H w L)=>jrw hC (h:=H) S (by omega);rw[ll]at kM;have kI:=fun w H (S:RI H w L)=>jiY hC (h:=H) (x:=L.getD (bstK L b.toNat) 0) S;rw[bi]at kI
   rw[decide_eq_true cb]at kb;rw[if_neg (by simpa using cb)]at e0;generalize hms:m*p.size=ms at*;generalize L.getD (bstK L b.toNat) 0=M at*;generalize bstK L b.toNat=BB at*;unfold plA hitA at*;by_cases cs:(s.length:Int)<f+ms
   ·rw[if_pos cs]at e0;rw[e0,if_neg (by decide)];refine zf 401 B401 hC ?_;simp only[B401,zB];refine zs ?_;refine kaa (kp _ zr) (zs ?_);refine kaa (kc _ zr) (zs ?_);refine kaa (ks _ zr) (zs ?_);refine kaa (kl _) (zs1 @Heap.wf ?_);refine kaa (k1 _ _ 0 (by refine zs ?_;rfl)) ?_;refine zs ?_;refine kaa (kb _ _ 0 (by refine zs ?_;rfl)) ?_;refine zs1 sl ?_;refine kaa (kP _) (zs3 @hms sl cs ?_);exact zr
   ·rw[if_neg cs]at e0;rw[e0,if_pos rfl];refine zf 401 B401 hC ?_;simp only[B401,zB];refine zs ?_;refine kaa (kp _ zr) (zs ?_);refine kaa (kc _ zr) (zs ?_);refine kaa (ks _ zr) (zs ?_);refine kaa (kl _) (zs1 @Heap.wf ?_);refine kaa (k1 _ _ 0 (by refine zs ?_;rfl)) ?_;refine zs ?_;refine kaa (kb _ _ 0 (by refine zs ?_;rfl)) ?_;refine zs1 sl ?_;refine kaa (kP _) (zs3 @hms sl cs ?_);refine kad (kW _ zr) ?_;rintro r h1 ⟨w1,rfl,s1,Q1⟩;have t1:=HSub.trans (show HSub h _ from zr) s1;refine zs1 @jah.eq_1 ?_;refine kad (kS _ _ Q1) ?_;rintro r h2 ⟨w2,rfl,s2,Q2⟩
    have t2:=t1.trans s2;refine zs1 @jah.eq_1 ?_;refine kaa (kM _ _ Q2) (zs ?_);refine kaa (kI _ _ Q2) (zs ?_);exact t2
  ·rw[decide_eq_false cb]at kb;rw[if_pos cb]at e0;rw[e0,if_neg (by decide)];unfold plA hitA at*;refine zf 401 B401 hC ?_;simp only[B401,zB];refine zs ?_;refine kaa (kp _ zr) (zs ?_);refine kaa (kc _ zr) (zs ?_);refine kaa (ks _ zr) (zs ?_);refine kaa (kl _) (zs1 @Heap.wf ?_);refine kaa (k1 _ _ 0 (by refine zs ?_;rfl)) ?_;refine zs ?_;refine kaa (kb _ _ 0 (by refine zs ?_;rfl)) ?_;refine zs ?_;exact zr
 ·have ee:stepErr p s prn f m b=firstE [p.err,codeE p prn,sampE s,placE f m]:=by unfold stepErr;rw[if_pos c]
  rw[ee,if_neg c];clear ee;generalize firstE [p.err,codeE p prn,sampE s,placE f m]=E at*;unfold plA hitA at*;refine zf 401 B401 hC ?_;simp only[B401,zB];refine zs ?_;refine kaa (kp _ zr) (zs ?_);refine kaa (kc _ zr) (zs ?_);refine kaa (ks _ zr) (zs ?_);refine kaa (kl _) (zs1 @Heap.wf ?_);refine kaa (k1 _ _ 0 (by refine zs ?_;rfl)) ?_;refine zs1 c ?_;exact zr
theorem jmO(hC:Has C TA){v vp:AV}{p:PlanP}{s:List (Int×Int)}{prn f pw m b:Int}{h:Heap}(hs:SI h v s)(R:RI h vp p.prns)(p64:p.ok64)(hf:In64 f)(hm:In64 m)(hb:In64 b):
  ACalls C 402 [v,plA p vp,hitA prn f pw m,.int .i64 b] h (fun r h'=>r=jij p s prn f m b/\HSub h h'):=by
 have v1:=R.one;have ki:=fun H (q:HSub h H) i (g:H.get i=some (.cells [.int .i64 prn,.int .i64 f,.int .i64 pw,.int .i64 m] true 0))=>jd8 hC (vg:=.nilptr) (vc:=.ptr i 0) (prn:=prn) (b:=0) (sh:=0) (f:=f) (m:=m) (h:=H) (G:=false) (K:=true) (hs.mono q) (R.mono q) p64 hf hm rfl ⟨i,_,rfl,g⟩;have e0:(if(false:Bool)=true then gErr 0 0 else 0)=0:=rfl;have e1:(if(true:Bool)=true then codeE p prn else 0)=codeE p prn:=rfl;rw[e0,e1,skip0]at ki;clear e0 e1;have kN:=fun H=>jig hC (v:=.nilslice) (l:=[]) (h:=H) ka7 hb;have sN:jbV [] b=if jbI b then 0 else 3:=rfl
 rw[sN]at kN;clear sN;unfold jij;by_cases c:firstE [p.err,codeE p prn,sampE s,placE f m]=0
 ·rw [c] at ki;have z := jbM c;have ao := jgx (f := f) (m := m) p64 (z _ (by simp)) (z (codeE p prn) (by simp)) (z (sampE s) (by simp)) (z (placE f m) (by simp));obtain ⟨A, hf', hm'⟩ := ao;have sz := jas A.ok.nums;have hl2 := A.len;have sl := hs.len;have kP := fun H => jbL hC (p := p) (vp := vp) (h := H) A.ok.nums v1;have kW := fun H (q : HSub h H) => jke hC (h := H) (a := f) (many := m) (hs.mono q) A.p64.1 A.p64.2.1 (A.p64.2.2.2.2.2.2.2 _ A.hin) hf hm;rw [A.win0 hf' hm', if_pos rfl] at kW;have e0 : stepErr p s prn f m b = if ¬ jbI b then 3 else if s.length < f + m * p.size then 16 else 0 := by unfold stepErr; rw [c, if_neg (by decide)]
  have m0:0<=m*p.size:=Int.mul_nonneg (by omega) (by omega);have m1:m*p.size<=16*8184:=Int.mul_le_mul hm'.2 sz.2.1 (by omega) (by omega);by_cases cb:jbI b
  ·have kS:=fun w H (S:SI H w (bankL s (sampL p.d prn p.o.toNat) f (sampL p.d prn p.o.toNat).length m.toNat))=>jig hC (h:=H) S hb;rw[A.stp0 hm' cb,if_pos rfl]at kS;have b0:0<b/\b<=64:=by unfold jbI at cb;omega
   have bn:b.toNat<=64:=by omega
   have ll:(stpL p s prn f m b).length=b.toNat:=jbA _ _ _;have es:jc6 (bankL s (sampL p.d prn p.o.toNat) f (sampL p.d prn p.o.toNat).length m.toNat) b b.toNat=stpL p s prn f m b:=rfl;rw[es]at kS;generalize stpL p s prn f m b=L at*;generalize bankL s (sampL p.d prn p.o.toNat) f (sampL p.d prn p.o.toNat).length m.toNat=BL at*;rw[if_pos cb]at kN;rw[if_neg (by simpa using cb)]at e0;generalize hms:m*p.size=ms at*;have bs:=bst_s L;have bz:bstK L 0=0:=rfl;have bl:=jgv L;generalize bstK L=BK at*;generalize b.toNat=n at*;unfold plA hitA at*;by_cases cs:(s.length:Int)<f+ms
   ·rw[if_pos cs]at e0;rw[e0,if_neg (by decide)];refine zf 402 B402 hC ?_;simp only[B402,zB];refine zs ?_;refine kaa (ki _ zr (h.size+1) (by exact ze)) (zs ?_);refine kad (kN _) ?_;rintro r h1 ⟨w1,rfl,s1,Q1⟩;have t1:=HSub.trans (show HSub h _ from zr) s1;have g5:h1.get h.size=some (.cells [.int .i64 p.d,.int .i64 p.o,.int .i64 p.pb,.int .i64 p.w,.int .i64 p.mn,.int .i64 p.mx,.int .i64 p.nz,vp] true 0):=(s1.get h.size (by simp only[Heap.size_push];omega)).trans (by exact ze);have g6:h1.get (h.size+1)=some (.cells [.int .i64 prn,.int .i64 f,.int .i64 pw,.int .i64 m] true 0):=(s1.get (h.size+1) (by simp only[Heap.size_push];omega)).trans (by exact ze)
    refine zs4 @jah.eq_1 g5 g6 sl ?_;refine kaa (kP _) (zs3 @hms sl cs ?_);exact(zh t1)
   ·rw[if_neg cs]at e0;rw[e0,if_pos rfl];refine zf 402 B402 hC ?_;simp only[B402,zB];refine zs ?_;refine kaa (ki _ zr (h.size+1) (by exact ze)) (zs ?_);refine kad (kN _) ?_;rintro r h1 ⟨w1,rfl,s1,Q1⟩;have t1:=HSub.trans (show HSub h _ from zr) s1;have g5:h1.get h.size=some (.cells [.int .i64 p.d,.int .i64 p.o,.int .i64 p.pb,.int .i64 p.w,.int .i64 p.mn,.int .i64 p.mx,.int .i64 p.nz,vp] true 0):=(s1.get h.size (by simp only[Heap.size_push];omega)).trans (by exact ze);have g6:h1.get (h.size+1)=some (.cells [.int .i64 prn,.int .i64 f,.int .i64 pw,.int .i64 m] true 0):=(s1.get (h.size+1) (by simp only[Heap.size_push];omega)).trans (by exact ze)
    refine zs4 @jah.eq_1 g5 g6 sl ?_;refine kaa (kP _) (zs5 @hms sl cs g5 g6 ?_);refine kad (kW _ (zh t1)) ?_;rintro r h2 ⟨w2,rfl,s2,Q2⟩;have t2:=HSub.trans (show HSub h _ from(zh t1)) s2;refine zs1 @jah.eq_1 ?_;refine kad (kS _ _ Q2) ?_;rintro r h3 ⟨w3,rfl,s3,Q3⟩;have t3:=t2.trans s3;have Ql:=Q3.len;rw[ll]at Ql;refine zs1 @jah.eq_1 ?_;refine jae (fun j t h'=>h'=h3/\t 15=w3/\∃k:Nat,t 17=.int .i64 (BK k:Nat)/\t 18=.int .i64 (k:Nat)/\k<=n/\j=n-k) (j0:=n)
     ⟨rfl,rfl,0,by rw[bz];rfl,rfl,by omega,rfl⟩ ?_
    rintro j t h' ⟨rfl,e15,k,e17,e18,hk,hj⟩;refine zs3 e15 e18 Ql ?_;refine kag (fun c1=>?_) (fun c1=>?_)
    ·have hk':k<n:=by omega
     have bsk:=bs k;have blk:=bl k;have ld1:=Q3.load (k:=k) (by omega);have ld2:=Q3.load (k:=BK k) (by omega);generalize BK k=bi at*;refine zs6 e15 e17 e18 @Q3.idx ld1 ld2 ?_;refine kag (fun c2=>?_) (fun c2=>?_)
     ·rw[if_pos c2]at bsk;refine zs1 e18 ?_;exact⟨_,⟨e15,k+1,by rw[bsk],by simp,by omega,rfl⟩,by omega⟩
     ·rw[if_neg c2]at bsk;refine zs1 e18 ?_;exact⟨_,⟨e15,k+1,by rw[bsk];exact e17,by simp,by omega,rfl⟩,by omega⟩
    ·obtain rfl:k=n:=by omega
     refine zs1 e17 ?_;exact t3
  ·rw[if_neg cb]at kN;rw[if_pos cb]at e0;rw[e0,if_neg (by decide)];unfold plA hitA at*;refine zf 402 B402 hC ?_;simp only[B402,zB];refine zs ?_;refine kaa (ki _ zr (h.size+1) (by exact ze)) (zs ?_);refine kad (kN _) ?_;rintro r h1 ⟨w1,rfl,s1,Q1⟩;have t1:=HSub.trans (show HSub h _ from zr) s1;refine zs1 @jah.eq_1 ?_;exact(zh t1)
 ·have ee:stepErr p s prn f m b=firstE [p.err,codeE p prn,sampE s,placE f m]:=by unfold stepErr;rw[if_pos c]
  rw[ee,if_neg c];clear ee;generalize firstE [p.err,codeE p prn,sampE s,placE f m]=E at*;unfold plA hitA at*;refine zf 402 B402 hC ?_;simp only[B402,zB];refine zs ?_;refine kaa (ki _ zr (h.size+1) (by exact ze)) (zs1 @c ?_);exact zr
theorem eqs4t{a b c d:Int}:eqsA true [(0,false),(1,false),(2,false),(3,false)] (.agg [.int .i64 a,.int .i64 b,.int .i64 c,.int .i64 d]) (.agg [.int .i64 a,.int .i64 b,.int .i64 c,.int .i64 d])=some (.bool false):=by
 simp[eqsA,jaA]
theorem jnx:∀(L:List HitT) (k:Nat),k<L.length->∃a b c d:Int,cut (hitC L) (k*4) 4=[.int .i64 a,.int .i64 b,.int .i64 c,.int .i64 d]/\L.getD k (0,0,0,0)=(a,b,c,d)
 |x::L,0,_=>⟨_,_,_,_,rfl,rfl⟩
 |x::L,k+1,h=>by
  obtain⟨a,b,c,d,e,g⟩:=jnx L k (by simpa using h);refine⟨a,b,c,d,?_,by simpa using g⟩;rw[<-e];unfold cut;rw[show(k+1)*4=4+k*4 by omega,<-List.drop_drop];rfl
theorem jkf(hC:Has C TA){va vb:AV}{L:List HitT}(ha:HI h va L)(hb:HI h vb L):ACalls C 403 [va,vb] h (fun r h'=>r=.bool true/\h'=h):=by
 have hlt:=SL.lt ha;have la:=SL.len ha;have lb:=SL.len hb;refine zf 403 B403 hC ?_;simp only[B403,zB];refine zs2 la lb ?_;refine jae (fun j t h'=>h'=h/\t 0=va/\t 1=vb/\∃k:Nat,t 5=.int .i64 (k:Nat)/\k<=L.length/\j=L.length-k) (j0:=L.length) ⟨rfl,rfl,rfl,0,rfl,by omega,rfl⟩ ?_;rintro j t h' ⟨rfl,e0,e1,k,e5,hk,hj⟩;refine zs3 e0 e5 la ?_;refine kag (fun c=>?_) (fun c=>?_)
 ·have hk':k<L.length:=by omega
  have ia:=SL.idx ha (kk:=.i64) (k:=((k:Nat):Int)) ⟨by omega,by omega⟩;have ib:=SL.idx hb (kk:=.i64) (k:=((k:Nat):Int)) ⟨by omega,by omega⟩;have da:=SL.loadA ha hk';have db:=SL.loadA hb hk';have z:=jnx L k hk';obtain⟨x1,x2,x3,x4,ez,_⟩:=z;rw[Int.toNat_natCast]at ia ib;rw[ez]at da db;refine zs7 e0 e1 e5 ia ib da (zI db @eqs4t) ?_;exact⟨_,⟨k+1,by simp,by omega,rfl⟩,by omega⟩
 ·exact ze
theorem AcquireAlls_law(hC:Has C TA){v vp:AV}{s:List (Int×Int)}{d o pb w mn mx nz b sh f h1 h2 h3 h4 n bins:Int}{l:List Int}{h:Heap}(hs:SI h v s)(i1:In64 d)(i2:In64 o)(i3:In64 pb)(i4:In64 w)(i5:In64 mn)(i6:In64 mx)(i7:In64 nz)(R:RI h vp l)(_i8:In64 b)(_i9:In64 sh)(hf:In64 f)(_k1:In64 h1)(k2:In64 h2)(_k3:In64 h3)(k4:In64 h4)(hn:In64 n)(hb:In64 bins)
  (_hxs:∀p∈s,In64 p.1/\In64 p.2) (hx:∀x∈l,In64 x) (Ks:KnownCap v) (Kp:KnownCap vp):
  ACalls C.main0 392 [v,.agg [.int .i64 d,.int .i64 o,.int .i64 pb,.int .i64 w,.int .i64 mn,.int .i64 mx,.int .i64 nz,vp],.agg [.int .i64 b,.int .i64 sh],.int .i64 f,.agg [.int .i64 h1,.int .i64 h2,.int .i64 h3,.int .i64 h4],.int .i64 n,.int .i64 bins] h (fun r _=>r=.bool true):=by
 have hM:Has C.main0 TA:=hC.main0;have xp:∃p:PlanP,p=⟨d,o,pb,w,mn,mx,nz,l⟩:=⟨_,rfl⟩;obtain⟨p,hp⟩:=xp;have R:RI h vp p.prns:=by rw[hp];exact R
 have p64:p.ok64:=by rw[hp];exact⟨i1,i2,i3,i4,i5,i6,i7,hx⟩
 have v1:=R.one;have kw:=fun H=>jkb hM (h:=H);have kl:=fun H (q:HSub h H)=>jka hM (h:=H) (R.mono q) (hs.mono q);have ea:plA p vp=.agg [.int .i64 d,.int .i64 o,.int .i64 pb,.int .i64 w,.int .i64 mn,.int .i64 mx,.int .i64 nz,vp]:=by rw[hp];rfl
 cases c:big16 p s.length with
 |true=>
  rw[c]at kl;rw[ea]at kl;refine jcY (hM.body (by decide) (by rfl:tab 392=some B392)) (Nat.le_of_ble_eq_true rfl) ?_;show wp C.main0 _ none B392.code _ _;simp only[B392,zB];refine zs ?_;refine kaa (kl _ zr) (zs ?_);refine kaa (kw _) ?_;exact ze
 | false =>
  have c':=of_decide_eq_false c;have lb:jls p=false:=by
   unfold jls;rw[decide_eq_false_iff_not];omega
  have ht:p.err=0->gErr b sh=0->∀prn,thrI p sh prn<3000000000:=fun e g prn=>jp6 (jdG e) (jcB g).2.2 lb prn;have a1:=fun H (q:HSub h H)=>jrt hC (h:=H) (b:=b) (sh:=sh) (f:=f) (m:=h4) (hs.mono q) Ks (R.mono q) Kp p64 hf k4;have a2:=fun H (q:HSub h H)=>jqh hM (h:=H) (b:=b) (sh:=sh) (f:=f) (m:=h4) (hs.mono q) (R.mono q) p64 hf k4 ht;have a3:=fun H (q:HSub h H)=>jlv hM (h:=H) (b:=b) (sh:=sh) (prn:=h1) (f:=h2) (pw:=h3) (m:=h4) (n:=n) (hs.mono q) (R.mono q) p64 k2 k4 hn;have a4:=fun H (q:HSub h H)=>jkc hM (h:=H) (b:=b) (sh:=sh) (prn:=h1) (f:=h2) (pw:=h3) (m:=h4) (n:=n) (hs.mono q) (R.mono q) p64 k2 k4 hn (fun e g=>ht e g _)
  have a5:=fun H (q:HSub h H)=>joK hM (h:=H) (prn:=h1) (f:=h2) (pw:=h3) (m:=h4) (b:=bins) (hs.mono q) (R.mono q) p64 k2 k4 hb;have a6:=fun H (q:HSub h H)=>jmO hM (h:=H) (prn:=h1) (f:=h2) (pw:=h3) (m:=h4) (b:=bins) (hs.mono q) (R.mono q) p64 k2 k4 hb;have kq:=fun va vb L H (A:HI H va L) (B:HI H vb L)=>jkf hM A B;rw[c]at kl;unfold jlx at a1 a2;unfold jgy at a3 a4;unfold jij at a5 a6;generalize (if allErr p b sh s f h4=0 then hitsL p sh s f h4 p.prns else[])=L at*;generalize allErr p b sh s f h4=E1 at*;generalize (if confErr p b sh s h1 h2 h4 n=0 then((cntK p sh h1 s h2 h4 n.toNat:Nat):Int)else 0)=x3 at*
  generalize confErr p b sh s h1 h2 h4 n=E3 at*;generalize (if stepErr p s h1 h2 h4 bins=0 then((bstK (stpL p s h1 h2 h4 bins) bins.toNat:Nat):Int)else 0)=x5 at*;generalize stepErr p s h1 h2 h4 bins=E5 at*;rw[ea]at kl a1 a2 a3 a4 a5 a6;unfold gA hitA at*;clear ht lb hx p64 ea;refine jcY (hM.body (by decide) (by rfl:tab 392=some B392)) (Nat.le_of_ble_eq_true rfl) ?_;show wp C.main0 _ none B392.code _ _;simp only[B392,zB];refine zs ?_;refine kaa (kl _ zr) (zs ?_);refine kal (fun H hH=>?_);have g8:H.get h.size=some (.cells [.int .i64 d,.int .i64 o,.int .i64 pb,.int .i64 w,.int .i64 mn,.int .i64 mx,.int .i64 nz,vp] true 0):=by rw[hH];exact ze
  have g9:H.get (h.size+1)=some (.cells [.int .i64 b,.int .i64 sh] true 0):=by rw[hH];exact ze
  have g11:H.get (h.size+2)=some (.cells [.int .i64 h1,.int .i64 h2,.int .i64 h3,.int .i64 h4] true 0):=by rw[hH];exact ze
  have t0:HSub h H:=by rw[hH];exact zr
  clear hH;have l8:=kab g8;have l9:=kab g9;have l11:=kab g11;refine kad (a1 _ t0) ?_;rintro r H1 ⟨w1,rfl,s1,Q1⟩;have u1:=s1;simp-implicitDefEqProofs (disch:=first|exact zd|fail) only[↓wpPre,jbr,jbs,Int.reduceToNat,Int.reducePow,Int.reduceMul,Int.reduceAdd,Int.reduceSub,Int.reduceNeg,Nat.reduceAdd,Nat.reduceMul,Nat.reducePow,Int.reduceLT,Int.reduceLE,Int.reduceEq,Nat.reduceEqDiff,jah,(u1.get _ l8).trans g8,(u1.get _ l9).trans g9,(u1.get _ l11).trans g11];refine kad (a2 _ (t0.trans u1)) ?_;rintro r H2 ⟨w2,rfl,s2,Q2⟩;have u2:=u1.trans s2;simp-implicitDefEqProofs (disch:=first|exact zd|fail) only[↓wpPre,jbr,jbs,Int.reduceToNat,Int.reducePow,Int.reduceMul,Int.reduceAdd,Int.reduceSub,Int.reduceNeg,Nat.reduceAdd,Nat.reduceMul,Nat.reducePow,Int.reduceLT,Int.reduceLE,Int.reduceEq,Nat.reduceEqDiff,jah,(u2.get _ l8).trans g8,(u2.get _ l9).trans g9,(u2.get _ l11).trans g11]
  refine kad (a3 _ (t0.trans u2)) ?_;rintro r H3 ⟨rfl,s3⟩;have u3:=u2.trans s3;simp-implicitDefEqProofs (disch:=first|exact zd|fail) only[↓wpPre,jbr,jbs,Int.reduceToNat,Int.reducePow,Int.reduceMul,Int.reduceAdd,Int.reduceSub,Int.reduceNeg,Nat.reduceAdd,Nat.reduceMul,Nat.reducePow,Int.reduceLT,Int.reduceLE,Int.reduceEq,Nat.reduceEqDiff,(u3.get _ l8).trans g8,(u3.get _ l9).trans g9,(u3.get _ l11).trans g11];refine kad (a4 _ (t0.trans u3)) ?_;rintro r H4 ⟨rfl,s4⟩;have u4:=u3.trans s4;simp-implicitDefEqProofs (disch:=first|exact zd|fail) only[↓wpPre,jbr,jbs,Int.reduceToNat,Int.reducePow,Int.reduceMul,Int.reduceAdd,Int.reduceSub,Int.reduceNeg,Nat.reduceAdd,Nat.reduceMul,Nat.reducePow,Int.reduceLT,Int.reduceLE,Int.reduceEq,Nat.reduceEqDiff,(u4.get _ l8).trans g8,(u4.get _ l9).trans g9,(u4.get _ l11).trans g11]
  refine kad (a5 _ (t0.trans u4)) ?_;rintro r H5 ⟨rfl,s5⟩;have u5:=u4.trans s5;simp-implicitDefEqProofs (disch:=first|exact zd|fail) only[↓wpPre,jbr,jbs,Int.reduceToNat,Int.reducePow,Int.reduceMul,Int.reduceAdd,Int.reduceSub,Int.reduceNeg,Nat.reduceAdd,Nat.reduceMul,Nat.reducePow,Int.reduceLT,Int.reduceLE,Int.reduceEq,Nat.reduceEqDiff,(u5.get _ l8).trans g8,(u5.get _ l9).trans g9,(u5.get _ l11).trans g11];refine kad (a6 _ (t0.trans u5)) ?_;rintro r H6 ⟨rfl,s6⟩;have q1:=(((SL.mono Q1 s2).mono s3).mono s4).mono s5|>.mono s6;have q2:=(((SL.mono Q2 s3).mono s4).mono s5).mono s6
  refine zs ?_;refine kaa (kq _ _ _ _ q1 q2) (zs1 @gV_u ?_);refine kaa (kw _) ?_;exact ze
end Go.Ae
