/- Texts of the proof, part 9: a second reading of the lowered code, proved sound, and what the functions compute. -/
import Derived.OrdersIn
import Derived.Test.YtkbkpjinekcnhaaGreatF8
set_option linter.unusedSimpArgs false
set_option linter.unusedVariables false
set_option maxRecDepth 20000
set_option maxHeartbeats 4000000
namespace Go.Ae
variable {C : Ctx} {ops : Array Oper} {i : Nat} {nid : Option Nat} {o : Oper} {P : Program}
open Go.Conc
section
variable {C : Ctx} {keep : Keep} {nt : Nat} {env : Env} {st : St} {a : Act} {w : World}
theorem jj6(S:Sim C keep nt env st a w){ops:Array Oper}{j d:Nat}(hd:(ops[j]?).bind (·.dst)=some d):
  yielded ops a.tmps j=match st.t d with|.bool c=>some c|_=>none:=by
 have h1:=S.tmps d;rw[Array.getD_eq_getD_getElem?]at h1;unfold yielded;rw[hd];simp only[Option.bind_some];cases ht:a.tmps[d]? with
 |none=>
  rw[ht]at h1;simp only[Option.getD_none]at h1;cases hs:st.t d<;>first|rfl|(rw[hs]at h1;cases h1)
 |some v=>
  rw[ht]at h1;simp only[Option.getD_some]at h1;subst h1;cases hs:st.t d<;>rfl
theorem jhY(S:Sim C keep nt env st a w){ops:Array Oper}{o:Oper}{g:Option (Nat×Bool)}(hg:jbO ops o.guard=some g){p q:Prop}(h:jeo g st.t p q):
  (Region.wanted o (yielded ops a.tmps)=true/\p)\/(Region.wanted o (yielded ops a.tmps)=false/\q):=by
 unfold Region.wanted;cases ho:o.guard with
 |none=>
  rw[ho]at hg;cases hg;exact .inl ⟨rfl,h⟩
 | some jw =>
  obtain⟨j,want⟩:=jw;rw[ho]at hg;simp only[jbO]at hg;split at hg
  ·rename_i d hd;cases hg;dsimp only;rw[jj6 S hd];unfold jeo at h;dsimp only at h;split at h
   ·rename_i c hc;by_cases e:c=want
    ·left;exact⟨by simp[hc,e],h.1 e⟩
    ·right;refine⟨by simp[hc,e],h.2 ?_⟩;cases c<;>cases want<;>simp_all
   ·rename_i hne;right;refine⟨?_,h⟩
    first
     |rfl
     | (split
        ·rename_i c hc;exact absurd hc (hne c)
        ·rfl)
  ·cases hg
theorem jcy{inv:FuncId->Option Nat}:(∃s,(jar P inv nt ops o)={dst:=none,op:=.refuse s,guard:=none})\/
  (∃g,jbO ops o.guard=some g/\(jar P inv nt ops o).guard=g/\(jar P inv nt ops o).dst=o.dst/\dstOk nt o.dst=true):=by
 unfold jar;split
 ·rename_i aop g h1 h2 h3;exact .inr ⟨_,h3,rfl,rfl,h2⟩
 ·exact .inl ⟨_,rfl⟩
theorem jhZ{s:String}{K:St->Prop}(h:wpOp C nid {dst:=none,op:=.refuse s,guard:=none} K st):False:=by
 unfold wpOp at h;simp[aOp,pureA]at h
end
def jp1(J:Keep->Goroutine->World->Prop)(b:Frame)(k:List Item)(cs:List Frame):Out->Keep->Act->World->Prop
 |.normal,kp,a,w=>J kp (G (b.atR a k) cs) w
 |.exit id,kp,a,w=>∀k2,exitTo id k2=exitTo id k->J kp (G (b.atR a (.code (.exit id)::k2)) cs) w
 |.ret,kp,a,w=>∀k2,J kp (G (b.atR a (.code .ret::k2)) cs) w
def WpJ(C:Ctx)(ro:Option Nat)(c:Code)(Q:Out->Keep->Act->World->Prop)(kp:Keep)(a:Act)(w:World):Prop:=
 ∀J,C.fam J->∀(b:Frame) (k:List Item) (cs:List Frame),b.roundOf=ro->b.kind≠.early->(∀o kp' a' w',Q o kp' a' w'->jp1 J b k cs o kp' a' w')->J kp (G (b.atR a (.code c::k)) cs) w
def OpsJ(C:Ctx)(ro:Option Nat)(ops:Array Oper)(todo:List Nat)(Q:Keep->Act->World->Prop)(kp:Keep)(a:Act)(w:World):Prop:=
 ∀J,C.fam J->∀(b:Frame) (k:List Item) (cs:List Frame),b.roundOf=ro->b.kind≠.early->(∀kp' a' w',Q kp' a' w'->J kp' (G (b.atR a' k) cs) w')->J kp (G (b.atR a (.inRegion ops todo::k)) cs) w
section
variable {C : Ctx} {ro : Option Nat} {kp : Keep} {a : Act} {w : World} {Q Q' : Out -> Keep -> Act -> World -> Prop}
theorem jfl{c:Code}(h:WpJ C ro c Q kp a w)(hq:∀o kp' a' w',Q o kp' a' w'->Q' o kp' a' w'):WpJ C ro c Q' kp a w:=
 fun J hJ b k cs hro hb hk=>h J hJ b k cs hro hb fun o kp' a' w' x=>hk o kp' a' w' (hq _ _ _ _ x)
theorem jtF(h:Q .normal kp a w):WpJ C ro .skip Q kp a w:=fun J hJ b k cs _ _ hk=>(C.closed J hJ).ctl rfl rfl (fun _=>jtB) (hk _ _ _ _ h)
theorem jr2{l:Nat}(h:Q .normal kp a w):WpJ C ro (.label l) Q kp a w:=fun J hJ b k cs _ _ hk=>(C.closed J hJ).ctl rfl rfl (fun _=>jrV) (hk _ _ _ _ h)
theorem jtG{id:Nat}(h:Q (.exit id) kp a w):WpJ C ro (.exit id) Q kp a w:=fun J hJ b k cs _ _ hk=>hk _ _ _ _ h k rfl
theorem jus(h:Q .ret kp a w):WpJ C ro .ret Q kp a w:=fun J hJ b k cs _ _ hk=>hk _ _ _ _ h k
theorem jut{x y:Code}(h:WpJ C ro x (fun o kp' a' w'=>match o with|.normal=>WpJ C ro y Q kp' a' w'|o=>Q o kp' a' w') kp a w):WpJ C ro (.seq x y) Q kp a w:=by
 intro J hJ b k cs hro hb hk;refine(C.closed J hJ).ctl rfl rfl (fun _=>jpW) (h J hJ b (.code y::k) cs hro hb fun o kp' a' w' q=>?_);cases o with
 |normal=>exact q J hJ b k cs hro hb hk
 |exit id=>exact fun k2 e=>hk _ _ _ _ q k2 e
 |ret=>exact fun k2=>hk _ _ _ _ q k2
theorem jtH{c:Operand}{x y:Code}{t:Bool}(hc:a.eval c=.bool t)(h1:t=true->WpJ C ro x Q kp a w)(h2:t=false->WpJ C ro y Q kp a w):WpJ C ro (.cond c x y) Q kp a w:=by
 intro J hJ b k cs hro hb hk;refine(C.closed J hJ).ctl rfl rfl (fun _=>jtC hc) ?_;cases t with
 |true=>exact h1 rfl J hJ b k cs hro hb hk
 |false=>exact h2 rfl J hJ b k cs hro hb hk
theorem jr3{id:Nat}{c:Code}(h:WpJ C ro c (fun o kp' a' w'=>match o with|.exit id'=>if id'=id then Q .normal kp' a' w' else Q (.exit id') kp' a' w'|o=>Q o kp' a' w') kp a w):WpJ C ro (.block id c) Q kp a w:=by
 intro J hJ b k cs hro hb hk;refine(C.closed J hJ).ctl rfl rfl (fun _=>jnN) (h J hJ b (.inBlock id::k) cs hro hb fun o kp' a' w' q=>?_);cases o with
 |normal=>exact(C.closed J hJ).ctl rfl rfl (fun _=>jji) (hk _ _ _ _ q)
 |ret=>exact fun k2=>hk _ _ _ _ q k2
 |exit id'=>
  intro k2 e;dsimp only at q;by_cases hi:id'=id
  ·subst hi;rw[if_pos rfl]at q;exact(C.closed J hJ).ctl rfl rfl (fun _=>jpY (by rw[e];simp[exitTo])) (hk _ _ _ _ q)
  ·rw[if_neg hi]at q;exact hk _ _ _ _ q k2 (by rw[e];simp[exitTo,Ne.symm hi])
theorem jtI{c:Code}(I:Nat->Keep->Act->World->Prop){j0:Nat}(h0:I j0 kp a w)
  (round:∀j kp a w,I j kp a w->WpJ C ro c (fun o kp' a' w'=>match o with|.normal=>∃i,i<j/\I i kp' a' w'|o=>Q o kp' a' w') kp a w):WpJ C ro (.loop c) Q kp a w:=by
 intro J hJ b k cs hro hb hk;refine(C.closed J hJ).ctl rfl rfl (fun _=>jpX) ?_;have key:∀j kp a w,I j kp a w->J kp (G (b.atR a (.code c:: .inLoop c::k)) cs) w:=by
  intro j
  induction j using Nat.strongRecOn with
  | _ j ih =>
   intro kp a w hI;refine round j kp a w hI J hJ b (.inLoop c::k) cs hro hb fun o kp' a' w' q=>?_;cases o with
   |normal=>
    obtain⟨i,hlt,hI'⟩:=q;exact(C.closed J hJ).ctl rfl rfl (fun _=>jlg) (ih i hlt _ _ _ hI')
   |exit id=>exact fun k2 e=>hk _ _ _ _ q k2 (by rw[e];simp[exitTo])
   |ret=>exact fun k2=>hk _ _ _ _ q k2
 exact key _ _ _ _ h0
theorem jp2{id:Nat}(h:OpsJ C ro ops (List.range ops.size) (Q .normal) kp a w):WpJ C ro (.region id ops false) Q kp a w:=
 fun J hJ b k cs hro hb hk=>(C.closed J hJ).ctl rfl rfl (fun _=>jhU) (h J hJ b k cs hro hb fun kp' a' w' q=>hk _ _ _ _ q)
theorem jiZ{id:Nat}(h:∀t,OpsJ C ro ops (Region.schedule (C.P.follows .mixedOrders) ops t) (Q .normal) kp a w):WpJ C ro (.region id ops true) Q kp a w:=by
 intro J hJ b k cs hro hb hk;refine(C.closed J hJ).go rfl fun kp1 w1 r=>⟨_,_,_,jiY,rfl,⟨rfl,rfl,rfl,Nat.le_refl _,fun _ _=>rfl⟩,fun e he=>(by simp at he),?_⟩;exact(C.closed J hJ).rely (h _ J hJ b k cs hro hb fun kp' a' w' q=>hk _ _ _ _ q) (r.at _)
theorem jp3{R:Keep->Act->World->Prop}(h:R kp a w):OpsJ C ro ops [] R kp a w:=
 fun J hJ b k cs _ _ hk=>(C.closed J hJ).ctl rfl rfl (fun _=>jd4) (hk _ _ _ h)
theorem jp4{rest:List Nat}{R:Keep->Act->World->Prop}(h:OpJ C ro ops i (fun kp' a' w'=>OpsJ C ro ops rest R kp' a' w') kp a w):OpsJ C ro ops (i::rest) R kp a w:=
 fun J hJ b k cs hro hb hk=>h J hJ b rest k cs hro hb fun kp' a' w' q=>q J hJ b k cs hro hb hk
end
section
variable {C : Ctx} {extra : Keep} {nt : Nat} {kp kp1 : Keep} {env : Env} {st : St} {a : Act} {w : World}
def Reached(C:Ctx)(extra:Keep)(nt:Nat)(kp:Keep)(env:Env)(st:St)(w:World)(W:List Nat)(Q:Out->St->Prop)(o:Out)(kp':Keep)(a':Act)(w':World):Prop:=
 ∃env' st',Far C extra nt kp env st w kp' env' st' a' w'/\(∀s,s∉W->st'.t s=st.t s)/\HLe st.h st'.h/\Q o st'
theorem Reached.step{env1:Env}{st1:St}{w1:World}{a1:Act}{W W':List Nat}{Q:Out->St->Prop}{o:Out}{kp':Keep}{a':Act}{w':World}(F:Far C extra nt kp env st w kp1 env1 st1 a1 w1)(hW:∀s,s∉W->st1.t s=st.t s)(hL:HLe st.h st1.h)
  (R:Reached C extra nt kp1 env1 st1 w1 W' Q o kp' a' w') (hsub:∀s,s∉W->s∉W'):Reached C extra nt kp env st w W Q o kp' a' w':=by
 obtain⟨env',st',G,h1,h2,h3⟩:=R;exact⟨env',st',F.trans G,fun s hs=>(h1 s (hsub s hs)).trans (hW s hs),hL.trans h2,h3⟩
theorem jll(ro:Option Nat)(ops:Array Oper)(W:List Nat)(hW:∀o∈ops.toList,∀d,(jar C.P C.inv nt ops o).dst=some d->d∈W)(K:St->Prop)(Q:Keep->Act->World->Prop):
  ∀(k:Nat) (kp:Keep) (env:Env) (st:St) (a:Act) (w:World),k<=ops.size->wpOps C ((ops.toList.drop k).map (jar C.P C.inv nt ops)) K st->Sim C (kp.or extra) nt env st a w->
   (∀kp' a' w',Reached C extra nt kp env st w W (fun _=>K) .normal kp' a' w'->Q kp' a' w')->OpsJ C ro ops (List.range' k (ops.size-k)) Q kp a w:=by
 intro k
 induction hn:ops.size-k generalizing k with
 |zero=>
  intro kp env st a w hk h S hQ;rw[List.drop_of_length_le (by simp;omega)]at h;exact jp3 (hQ kp a w ⟨env,st,kaC S,fun _ _=>rfl,kax _,h⟩)
 | succ n ih =>
  intro kp env st a w hk h S hQ;have hlt:k<ops.size:=by omega
  rw[List.range'_succ];rw[List.drop_eq_getElem_cons (by simpa using hlt),List.map_cons]at h;have hmem:ops[k]∈ops.toList:=by simp
  simp only[Array.getElem_toList]at h;simp only[wpOps]at h;refine jp4 ?_;rcases jcy (P:=C.P) (inv:=C.inv) (nt:=nt) (ops:=ops) (o:=ops[k])with⟨s,hs⟩|⟨g,hg,hge,hde,hdo⟩
  ·rw[hs]at h;have h':wpOp C none {dst:=none,op:=.refuse s,guard:=none} (wpOps C ((ops.toList.drop (k+1)).map (jar C.P C.inv nt ops)) K) st:=h;exact(jhZ h').elim
  ·rw [hge] at h;rcases jhY S hg h with ⟨hw, hp⟩ | ⟨hw, hq⟩
   ·refine OpJ.mono (jfS S ro (Array.getElem?_eq_getElem hlt) hw rfl hp) ?_;rintro kp' a' w' ⟨env',st',F,h1,h2,h3⟩;have hL:HLe st.h st'.h:=⟨F.grow.size,fun i hi=>h2 i hi (by simp)⟩;have hagree:∀s,s∉W->st'.t s=st.t s:=fun s hs=>h1 s fun hd=>hs (hW _ hmem s hd);refine ih (k+1) (by omega) kp' env' st' a' w' (by omega) h3 F.sim ?_;exact fun kp2 a2 w2 R2=>hQ kp2 a2 w2 (R2.step F hagree hL fun _ hs=>hs)
   ·refine jhX (Array.getElem?_eq_getElem hlt) hw ?_;rw[hde]at hq;have F:=S.put (v:=AV.undef) hdo S.rel (kaI _ _ _) (kam _ _) (kay _) trivial;have hph:(st.put ops[k].dst AV.undef).h=st.h:=by cases ops[k].dst<;>rfl
    have hst:St.put {st with h:=st.h} ops[k].dst AV.undef=st.put ops[k].dst AV.undef:=rfl;rw[hst]at F;have hagree:∀s,s∉W->(st.put ops[k].dst AV.undef).t s=st.t s:=by
     intro s hs;cases hd:ops[k].dst with
     |none=>rfl
     |some d=>
      simp only[St.put,upd];rw[if_neg];intro e;subst e;exact hs (hW _ hmem s (by rw[hde,hd]))
    refine ih (k+1) (by omega) kp env _ _ w (by omega) hq F.sim ?_;exact fun kp2 a2 w2 R2=>hQ kp2 a2 w2 (R2.step F hagree (by rw[hph];exact kax _) fun _ hs=>hs)
theorem jr4(W:List Nat)(u t:Nat->AV)(h:∀s,s∉W->u s=t s):mix W u t=u:=by
 funext s;unfold mix;by_cases hs:s∈W
 ·rw[if_pos (by simpa using hs)]
 ·rw[if_neg (by simpa using hs)];exact(h s hs).symm
end
end Go.Ae
namespace Go.Ae
variable {C : Ctx} {ops : Array Oper} {i : Nat} {nid : Option Nat} {o : Oper} {P : Program}
open Go.Conc
section
variable {C : Ctx} {extra : Keep} {nt : Nat}
def roOf(fenv:Env)(rd:Option Nat):Option Nat:=rd.map fun l=>(fenv l).blk
def jp5(C:Ctx)(extra:Keep)(nt:Nat)(fenv:Env)(rd:Option Nat):Prop:=
 ∀(g:Operand) (g':AOpd) (ps:Array Nat) (x y:Code) (Q:Out->St->Prop) (kp:Keep) (env:Env) (st:St) (a:Act) (w:World),lowerOpd C.inv g=some g'->(∀p∈ps.toList,p<nt)->
  jfk C nt rd (g'.ev st.t) ps.toList (jad C.P C.inv nt x) (jad C.P C.inv nt y) Q st->Sim C (kp.or extra) nt env st a w->(∀l,rd=some l->st.h.ok l/\env l=fenv l)->
  WpJ C (roOf fenv rd) (.rangeFunc g ps x y) (Reached C extra nt kp env st w [] Q) kp a w
def jte(C:Ctx)(extra:Keep)(nt:Nat)(fenv:Env)(rd:Option Nat):Prop:=
 ∀(id:Nat) (ops:Array Oper) (n:Nat) (l:List DItem) (K:St->Prop) (kp:Keep) (env:Env) (st:St) (a:Act) (w:World),jev C.P C.inv nt ops=some (n,l)->
  jhW C n l K st->Sim C (kp.or extra) nt env st a w->(∀l,rd=some l->st.h.ok l/\env l=fenv l)->
  WpJ C (roOf fenv rd) (.region id ops true) (Reached C extra nt kp env st w (l.filterMap (·.o.dst)) (fun o st'=>o=.normal/\K st')) kp a w
theorem jeP(fenv:Env)(rd:Option Nat)(hrange:jp5 C extra nt fenv rd)(hdraw:jte C extra nt fenv rd):∀(c:Code) (Q:Out->St->Prop) (kp:Keep) (env:Env) (st:St) (a:Act) (w:World),
  wp C nt rd (jad C.P C.inv nt c) Q st->Sim C (kp.or extra) nt env st a w->(∀l,rd=some l->st.h.ok l/\env l=fenv l)->
  WpJ C (roOf fenv rd) c (Reached C extra nt kp env st w (writes (jad C.P C.inv nt c)) Q) kp a w:=by
 intro c
 induction c with
 |skip=>
  intro Q kp env st a w h S hrd;exact jtF ⟨env,st,kaC S,fun _ _=>rfl,kax _,h⟩
 |label l=>
  intro Q kp env st a w h S hrd;exact jr2 ⟨env,st,kaC S,fun _ _=>rfl,kax _,h⟩
 |exit id=>
  intro Q kp env st a w h S hrd;exact jtG ⟨env,st,kaC S,fun _ _=>rfl,kax _,h⟩
 |ret=>
  intro Q kp env st a w h S hrd;exact jus ⟨env,st,kaC S,fun _ _=>rfl,kax _,h⟩
 |refuse s=>intro Q kp env st a w h S hrd;exact h.elim
 |goto l=>intro Q kp env st a w h S hrd;exact h.elim
 |scope b=>intro Q kp env st a w h S hrd;exact h.elim
 | region id ops draw =>
  intro Q kp env st a w h S hrd;cases draw with
  | false =>
   refine jp2 ?_;rw[List.range_eq_range'];have hh:wpOps C ((ops.toList.drop 0).map (jar C.P C.inv nt ops)) (Q .normal) st:=by simpa[jad,wp]using h
   refine jll (C:=C) (roOf fenv rd) ops (writes (jad C.P C.inv nt (.region id ops false)))
    (by intro o ho d hd;simp only[jad,writes,List.mem_filterMap,List.mem_map];exact⟨_,⟨o,ho,rfl⟩,hd⟩) (Q .normal) _ 0 kp env st a w (Nat.zero_le _) hh S ?_
   rintro kp' a' w' ⟨env',st',F,h1,h2,h3⟩;exact⟨env',st',F,h1,h2,h3⟩
  | true =>
   simp only[jad]at h|-;cases hd:jev C.P C.inv nt ops with
   |none=>rw[hd]at h;exact h.elim
   |some nl=>
    obtain⟨n,l⟩:=nl;rw[hd]at h;refine jfl (hdraw id ops n l (Q .normal) kp env st a w hd h S hrd) ?_;rintro o kp' a' w' ⟨env',st',F,h1,h2,rfl,h3⟩;exact⟨env',st',F,h1,h2,h3⟩
 | seq x y ihx ihy =>
  intro Q kp env st a w h S hrd;have h':wp C nt rd (jad C.P C.inv nt x) (thenO (wp C nt rd (jad C.P C.inv nt y) Q) Q) st:=h;refine jut (jfl (ihx _ kp env st a w h' S hrd) ?_);rintro o kp1 a1 w1 ⟨env1,st1,F1,h1,h2,h3⟩;have hsub1:∀s,s∉writes (jad C.P C.inv nt (.seq x y))->s∉writes (jad C.P C.inv nt x):=by
   intro s hs hx;exact hs (by simp only[jad,writes];exact List.mem_append.2 (.inl hx))
  have hsub2:∀s,s∉writes (jad C.P C.inv nt (.seq x y))->s∉writes (jad C.P C.inv nt y):=by
   intro s hs hx;exact hs (by simp only[jad,writes];exact List.mem_append.2 (.inr hx))
  cases o with
  |normal=>
   have:=ihy Q kp1 env1 st1 a1 w1 h3 F1.sim (fun l hl=>⟨F1.grow.same _ (hrd l hl).1,(F1.ext _ (hrd l hl).1).trans (hrd l hl).2⟩);refine jfl this ?_;rintro o2 kp2 a2 w2 R2;exact R2.step F1 (fun s hs=>h1 s (hsub1 s hs)) h2 hsub2
  |exit id=>exact⟨env1,st1,F1,fun s hs=>h1 s (hsub1 s hs),h2,h3⟩
  |ret=>exact⟨env1,st1,F1,fun s hs=>h1 s (hsub1 s hs),h2,h3⟩
 | cond c x y ihx ihy =>
  intro Q kp env st a w h S hrd;simp only[jad]at h|-;cases hc:lowerOpd C.inv c with
  |none=>rw[hc]at h;exact h.elim
  | some c' =>
   rw[hc]at h;have e:=S.opd c c' hc;have h':condP (c'.ev st.t) (wp C nt rd (jad C.P C.inv nt x) Q st) (wp C nt rd (jad C.P C.inv nt y) Q st):=h;unfold condP at h';split at h'
   ·rename_i t ht;rw[ht]at e;refine jtH (t:=t) e.1 (fun ht=>?_) (fun ht=>?_)
    ·refine jfl (ihx Q kp env st a w (h'.1 ht) S hrd) ?_;rintro o2 kp2 a2 w2 ⟨env',st',F,h1,h2,h3⟩;exact⟨env',st',F,fun s hs=>h1 s (fun hx=>hs (by simp only[writes];exact List.mem_append.2 (.inl hx))),h2,h3⟩
    ·refine jfl (ihy Q kp env st a w (h'.2 ht) S hrd) ?_;rintro o2 kp2 a2 w2 ⟨env',st',F,h1,h2,h3⟩;exact⟨env',st',F,fun s hs=>h1 s (fun hx=>hs (by simp only[writes];exact List.mem_append.2 (.inr hx))),h2,h3⟩
   ·exact h'.elim
 | block id b ih =>
  intro Q kp env st a w h S hrd;have h':wp C nt rd (jad C.P C.inv nt b) (jcD id Q) st:=h;refine jr3 (jfl (ih _ kp env st a w h' S hrd) ?_);rintro o kp1 a1 w1 ⟨env1,st1,F1,h1,h2,h3⟩;cases o with
  |normal=>exact⟨env1,st1,F1,h1,h2,h3⟩
  |ret=>exact⟨env1,st1,F1,h1,h2,h3⟩
  |exit id'=>
   simp only[jcD]at h3;by_cases e:id'=id
   ·rw[if_pos e]at h3;dsimp only;rw[if_pos e];exact⟨env1,st1,F1,h1,h2,h3⟩
   ·rw[if_neg e]at h3;dsimp only;rw[if_neg e];exact⟨env1,st1,F1,h1,h2,h3⟩
 | loop b ih =>
  intro Q kp env st a w h S hrd;obtain⟨I,μ,h0,hround⟩:=h;refine jtI (fun j kp' a' w'=>∃env' st',Far C extra nt kp env st w kp' env' st' a' w'/\(∀s,s∉writes (jad C.P C.inv nt b)->st'.t s=st.t s)/\HLe st.h st'.h/\I st'.t st'.h st'.m/\μ st'.t st'.h st'.m=j)
   ⟨env,st,kaC S,fun _ _=>rfl,kax _,h0,rfl⟩ ?_
  rintro j kp1 a1 w1 ⟨env1,st1,F1,g1,g2,hI,rfl⟩;have hm:=jr4 (writes (jad C.P C.inv nt b)) st1.t st.t g1;have hr:=hround st1.t st1.h st1.m g2 (by rw[hm];exact hI);rw[hm]at hr;have:=ih _ kp1 env1 st1 a1 w1 hr F1.sim (fun l hl=>⟨F1.grow.same _ (hrd l hl).1,(F1.ext _ (hrd l hl).1).trans (hrd l hl).2⟩);refine jfl this ?_;rintro o kp2 a2 w2 ⟨env2,st2,F2,k1,k2,k3⟩;have hag:∀s,s∉writes (jad C.P C.inv nt b)->st2.t s=st.t s:=fun s hs=>(k1 s hs).trans (g1 s hs);cases o with
  |normal=>exact⟨_,k3.2,env2,st2,F1.trans F2,hag,g2.trans k2,k3.1,rfl⟩
  |exit id=>exact⟨env2,st2,F1.trans F2,hag,g2.trans k2,k3⟩
  |ret=>exact⟨env2,st2,F1.trans F2,hag,g2.trans k2,k3⟩
 | rangeFunc g ps x y ihx ihy =>
  intro Q kp env st a w h S hrd;simp only[jad]at h|-;cases hg:lowerOpd C.inv g with
  |none=>rw[hg]at h;exact h.elim
  | some g' =>
   rw[hg]at h;dsimp only at h|-;split at h
   ·rename_i hps;rw[if_pos hps];have hps':∀p∈ps.toList,p<nt:=by
     intro p hp;have:=Array.all_eq_true'.1 hps p (by simpa using hp);simpa using this
    exact hrange g g' ps x y Q kp env st a w hg hps' h S hrd
   ·exact h.elim
end
end Go.Ae
