/- Texts of the proof, part 17: a second reading of the lowered code, proved sound, and what the functions compute. -/
import Derived.Sort.Row
import Derived.Sort.Grow
import Derived.Test.YtkbkpjinekcnhaaGreatF16
set_option linter.unusedSimpArgs false
set_option linter.unusedVariables false
set_option maxRecDepth 20000
set_option maxHeartbeats 4000000
namespace Go.Ae
variable {C : Ctx} {h h' H h0 : Heap} {v vp : AV} {p : PlanP} {w w' : World} {env : Env} {kp : Keep} {ops : Array Oper} {st : St} {i sz c : Nat} {l : List Int} {s : List (Int × Int)} {prn d b f a : Int} {cs : List AV} {ev : AOpd -> AV} {nid : Option Nat}
open Go.Sort
end Go.Ae
namespace Go.Ae
variable {C : Ctx} {h h' H h0 : Heap} {v vp : AV} {p : PlanP} {w w' : World} {env : Env} {kp : Keep} {ops : Array Oper} {st : St} {i sz c : Nat} {l : List Int} {s : List (Int × Int)} {prn d b f a : Int} {cs : List AV} {ev : AOpd -> AV} {nid : Option Nat}
theorem jf7(d p:Int):jaG d p=0\/jaG d p=2:=by unfold jaG;split<;>simp
def LLI(h:Heap)(v:AV)(ll:List (List Int)):Prop:=∃vs:List AV,SL h 1 v ll.length vs/\vs.length=ll.length/\∀i,i<ll.length->RI h (vs.getD i .nilslice) (ll.getD i [])
theorem LLI.len{ll:List (List Int)}(H:LLI h v ll):lenA v=some (.int .i64 ll.length):=by obtain⟨vs,a,_,_⟩:=H;exact a.len
theorem kbP:LLI h .nilslice []:=⟨[],⟨rfl,by decide,.inl ⟨rfl,rfl⟩⟩,rfl,fun i hi=>by simp at hi⟩
def tabE(d:Int)(ps:List Int):Nat->Int
 |0=>0
 |k+1=>if tabE d ps k≠0 then tabE d ps k else if jaG d (ps.getD k 0)≠0 then 2 else if((ps.take k).any fun y=>ps.getD k 0==y)=true then 8 else 0
def tabErr(d o:Int)(ps:List Int):Int:=if jax d o≠0 then 2 else if ps.length=0 then 3 else if 8<ps.length then 4 else tabE d ps ps.length
theorem tabE_mono{d:Int}{ps:List Int}{k:Nat}(h:tabE d ps k≠0):∀m,tabE d ps (k+m)=tabE d ps k
 |0=>rfl
 |m+1=>by
  rw[<-Nat.add_assoc,tabE,if_pos (by rw[tabE_mono h m];exact h),tabE_mono h m]
theorem tabE_at{ps:List Int}{k n:Nat}(h:tabE d ps k≠0)(hk:k<=n):tabE d ps n=tabE d ps k:=by
 have:=tabE_mono h (n-k)
 rwa [show k+(n-k)=n by omega]at this
def tabRow(d:Int)(o:Nat)(ps:List Int)(i k:Nat):List Int:=(List.range k).map fun j=>greatI (sampL d (ps.getD i 0) o) (sampL d (ps.getD j 0) o) (if i=j then o else 0)
theorem tabRow_length(d:Int)(o:Nat)(ps:List Int)(i k:Nat):(tabRow d o ps i k).length=k:=by simp[tabRow]
theorem tabRow_succ(d:Int)(o:Nat)(ps:List Int)(i k:Nat):tabRow d o ps i (k+1)=tabRow d o ps i k++[greatI (sampL d (ps.getD i 0) o) (sampL d (ps.getD k 0) o) (if i=k then o else 0)]:=by simp[tabRow,List.range_succ]
def tblL(d:Int)(o:Nat)(ps:List Int):List (List Int):=(List.range ps.length).map fun i=>tabRow d o ps i ps.length
theorem kbn{F:Heap}{n:Nat}{w:AV}{ds:List AV}(B:Grw h0 h sz w n ds)(hs:HSub h0 F)(hg:∀x∈w.ids,F.get x=h.get x):Grw h0 F sz w n ds:=by
 obtain⟨_,hl,hn,⟨rfl,rfl⟩|⟨i,ex,hi,rfl,hgi⟩⟩:=B
 ·exact⟨hs,hl,hn,.inl ⟨rfl,rfl⟩⟩
 ·exact⟨hs,hl,hn,.inr ⟨i,ex,hi,rfl,(hg i (by simp[AV.ids])).trans hgi⟩⟩
theorem jpf(hC:Has C TA){d o:Int}{vp:AV}{ps:List Int}{h:Heap}(hd:In64 d)(ho:In64 o)(hp:RI h vp ps)(hx:∀x∈ps,In64 x):
  ACalls C 172 [.int .i64 d,.int .i64 o,vp] h (fun r h'=>∃v,r=jai v (tabErr d o ps)/\HSub h h'/\LLI h' v (if tabErr d o ps=0 then tblL d o.toNat ps else[])):=by
 have hplt:=hp.lt;have fin:∀(h':Heap) (e:Int),HSub h h'->tabErr d o ps=e->e≠0->∃v,AV.tuple [.nilslice,.int .i64 e]=jai v (tabErr d o ps)/\HSub h h'/\LLI h' v (if tabErr d o ps=0 then tblL d o.toNat ps else[]):=fun h' e hs he h0=>⟨.nilslice,by rw[he];rfl,hs,by rw[if_neg (by omega)];exact kbP⟩;by_cases ck:jax d o=0
 ·have kr:lenOk d=true/\1<=o/\o<=8:=by
   unfold jax at ck;split at ck
   ·assumption
   ·cases ck
  obtain⟨q,rfl⟩:=Int.eq_ofNat_of_zero_le (show 0<=o by omega);have hN:=jbk kr.1;by_cases c0:ps.length=0
  ·have pe:tabErr d (q:Nat) ps=3:=by unfold tabErr;rw[if_neg (by omega),if_pos c0]
   refine zf 172 B172 hC ?_;simp only[B172,zB];refine zs ?_;refine kaa (jb8 hC hd ho) ?_;rw[ck];refine zs1 @hp.len ?_;exact fin _ _ (kag _) pe (by decide)
  by_cases c8:8<ps.length
  ·have pe:tabErr d (q:Nat) ps=4:=by unfold tabErr;rw[if_neg (by omega),if_neg c0,if_pos c8]
   refine zf 172 B172 hC ?_;simp only[B172,zB];refine zs ?_;refine kaa (jb8 hC hd ho) ?_;rw[ck];refine zs1 @hp.len ?_;exact fin _ _ (kag _) pe (by decide)
  have pe:tabErr d (q:Nat) ps=tabE d ps ps.length:=by unfold tabErr;rw[if_neg (by omega),if_neg c0,if_neg c8]
  rw[pe]at fin|-;have fin2:tabE d ps ps.length=0->∀(h':Heap) (v:AV),HSub h h'->LLI h' v (tblL d q ps)->∃v',AV.tuple [v,.int .i64 0]=jai v' (tabE d ps ps.length)/\HSub h h'/\LLI h' v' (if tabE d ps ps.length=0 then tblL d (q:Int).toNat ps else[]):=fun he h' v hs hl=>⟨v,by rw[he];rfl,hs,by rw[if_pos he];exact hl⟩;have hsd:=fun(h:Heap) (i:Nat) (p:Int) (hp:In64 p) (hg:h.get i=some (.cells [.int .i64 p] true 0))=>jf3 hC (vp:=.slice i 0 1 (.known 1)) (ps:=[p]) (h:=h) hd ho (kah hg ⟨rfl,by decide⟩ (by decide)) (by simp[hp]) (by simp);refine zf 172 B172 hC ?_;simp only[B172,zB];refine zs ?_
  refine kaa (jb8 hC hd ho) ?_;rw[ck];refine zs1 @hp.len ?_;refine jae (fun j t h'=>∃(k:Nat) (vs:List AV),Grw h h' 2 (t 9) k (jbL vs (q:Nat))/\vs.length=k/\(∀i,i<k->GrwI h h' (vs.getD i .nilslice) (sampL d (ps.getD i 0) q)/\Dj (vs.getD i .nilslice) (t 9))/\tabE d ps k=0/\
   t 0=.int .i64 d/\t 1=.int .i64 (q:Nat)/\t 2=vp/\t 34=vp/\t 35=.int .i64 (ps.length:Nat)/\t 36=.int .i64 (k:Nat)/\k<=ps.length/\j=ps.length-k) (j0:=ps.length)
   ⟨0,[],kaZ _ _,rfl,fun i hi=>by omega,rfl,rfl,rfl,rfl,rfl,rfl,rfl,by omega,rfl⟩ ?_
  rintro j t h2 ⟨k,vs,A,hvl,hvs,hte,e0,e1,e2,e34,e35,e36,hk,hj⟩;refine zs2 e35 e36 ?_;refine kaf (fun c1=>?_) (fun c1=>?_)
  ·have hk':k<ps.length:=by omega
   have hp2:=hp.mono A.sub;have hxk:=hx _ (jam hk');have ts:tabE d ps (k+1)=if jaG d (ps.getD k 0)≠0 then 2 else if((ps.take k).any fun y=>ps.getD k 0==y)=true then 8 else 0:=by rw[tabE,if_neg (by omega)]
   have ld:=hp2.load hk';have xp:∃p,p=ps.getD k 0:=⟨_,rfl⟩;obtain⟨p,hpd⟩:=xp;rw[<-hpd]at ld ts hxk;have se:jaA d (q:Nat) [p]=jaG d p:=by
    rw[jih];rcases jf7 d p with c|c
    ·rw[if_pos ⟨ck,c⟩,c]
    ·rw[if_neg (by omega),c]
   have hsd:=hsd (h2.push (.cells [.int .i64 p] true 0)) h2.size p hxk (get_push_eq rfl);rw[se]at hsd;by_cases cc:jaG d p=0
   ·rw[if_neg (by omega)]at ts;simp only[cc]at hsd;refine zs6 e0 e1 e34 e36 @hp2.idx ld ?_;refine kad hsd ?_;rintro r h3 ⟨v,ws,rfl,s1,hcl⟩;have s2:HSub h2 h3:=(kac _ _).trans s1;have x0:=hcl trivial;obtain⟨cl,gw⟩:=x0;have xw:∃w,ws=[w]:=by
     have:=cl.len
     match ws,this with
     |[w],_=>exact⟨w,rfl⟩
    obtain⟨w,rfl⟩:=xw;have B:GrwI (h2.push (.cells [.int .i64 p] true 0)) h3 w (sampL d p q):=gw 0 (by simp);have hp3:=hp.mono (A.sub.trans s2);have xs:=hp3.part_b (k2:=.i64) (b:=(k:Nat)) (by omega);obtain⟨v',ev,Rv⟩:=xs;have ev:=ev h3 (kag _);rw[Int.toNat_natCast]at Rv;have hcn:=jbD hC (x:=p) Rv;refine zs3 @jai.eq_1 e2 ev ?_;by_cases c3:((ps.take k).any fun y=>p==y)=true
    ·rw[if_pos c3]at ts;rw[c3]at hcn;refine kaa hcn (zs ?_);exact fin _ _ (A.sub.trans s2) ((tabE_at (by rw[ts];decide) (by omega)).trans ts) (by decide)
    ·rw[if_neg c3]at ts;rw[Bool.eq_false_iff.2 c3]at hcn;refine kaa hcn ?_;have cw:=cl.sl.content;rw[show([p]:List Int).length=1 from rfl,show jbL [w] (q:Nat)=[w,.int .i64 (q:Nat)]from rfl]at cw;have wone:w.one=true:=(Grw.sl B).one;have hn1:[w,AV.int .i64 (q:Nat)].all AV.one=true:=by simp[wone,jfp]
     have ap:=kaQ A (bytes:=32) (m:=1) (news:=[w,.int .i64 (q:Nat)]) s2 (by decide) (by omega) hn1;have A5:=kaH A (m:=1) (news:=[w,.int .i64 (q:Nat)]) s2 rfl (by omega);rw[<-je5]at ap A5;refine zs7 cw ap e0 e1 e2 e34 (zI e35 e36) ?_;have A4:=A.mono s2;have B0:GrwI h h3 w (sampL d p q):=B.base (A.sub.trans (kac _ _));have dw:Dj w (t 9):=fun j hj hj9=>by
      have q1:=(Grw.ids_lt B j hj).1;have q2:=(Grw.ids_lt A j hj9).2;simp only[Heap.size_push]at q1;omega
     refine⟨_,⟨k+1,vs++[w],A5,by simp[hvl],fun i hi=>?_,ts,by simp,by omega,rfl⟩,by omega⟩;rcases Nat.lt_or_ge i k with x|x
     ·have e:(vs++[w]).getD i .nilslice=vs.getD i .nilslice:=by simp[List.getD_eq_getElem?_getD,List.getElem?_append_left (show i<vs.length by omega)]
      rw[e];have B1:=(hvs i x).1.mono s2;exact⟨ka3 A4 B1 (kag _) (hvs i x).2,kbm B1 (Nat.le_refl _)⟩
     ·have ei:i=k:=by omega
      subst ei;have e:(vs++[w]).getD i .nilslice=w:=by simp[List.getD_eq_getElem?_getD,<-hvl]
      rw[e,<-hpd];exact⟨ka3 A4 B0 (kag _) dw,kbm B0 (Nat.le_refl _)⟩
   ·have c2:jaG d p=2:=by rcases jf7 d p with c|c<;>first|exact absurd c cc|exact c
    rw[if_pos (by omega)]at ts;simp only[c2]at hsd;refine zs6 e0 e1 e34 e36 @hp2.idx ld ?_;refine kad hsd ?_;rintro r h3 ⟨v,ws,rfl,s1,hcl⟩;have s2:HSub h2 h3:=(kac _ _).trans s1;refine zs1 @jai.eq_1 ?_;exact fin _ _ (A.sub.trans s2) ((tabE_at (by rw[ts];decide) (by omega)).trans ts) (by decide)
  ·have ek:k=ps.length:=by omega
   subst ek;have fin3:=fin2 hte;have lA:=A.sl;have hzA:=A.sub.size;have RV:∀i,i<ps.length->RI h2 (vs.getD i .nilslice) (sampL d (ps.getD i 0) q):=fun i hi=>(hvs i hi).1.ri;have hL8:ps.length<=8:=by omega
   have sz:∀i,(sampL d (ps.getD i 0) q).length=lenN d*q:=fun i=>jaF _ _ _;have sz1:lenN d<=lenN d*q:=Nat.le_mul_of_pos_right _ (by omega);have sz2:lenN d*q<=1023*8:=Nat.mul_le_mul (by omega) (by omega);have lenA9:=lA.len;have xlv:∃lv,lv=t 9:=⟨_,rfl⟩;obtain⟨lv,hlv⟩:=xlv;rw[<-hlv]at lA lenA9;have e9:t 9=lv:=hlv.symm;refine zs2 e9 lenA9 ?_;refine jae (fun j t h'=>∃(i:Nat) (rows:List AV),h'.get h2.size=some (.cells rows true 0)/\rows.length=ps.length/\HSub h2 h'/\h2.size<h'.size/\(∀j,j<i->GrwI h2 h' (rows.getD j .nilslice) (tabRow d q ps j ps.length)/\h2.size∉(rows.getD j .nilslice).ids)/\(∀j,i<=j->j<ps.length->rows[j]? =some .nilslice)/\
    t 1=.int .i64 (q:Nat)/\t 9=lv/\t 14=.slice h2.size 0 ps.length (.known ps.length)/\t 64=lv/\t 65=.int .i64 (ps.length:Nat)/\t 66=.int .i64 (i:Nat)/\i<=ps.length/\j=ps.length-i) (j0:=ps.length)
    ⟨0,List.replicate ps.length .nilslice,get_push_eq rfl,by simp,kac _ _,by simp,fun j hj=>by omega,fun j _ hj=>by simp[hj],e1,e9,rfl,rfl,rfl,rfl,by omega,rfl⟩ ?_
   rintro j t h4 ⟨i,rows,gO,hrl,s4,z4,hrow,hnil,e1,e9,e14,e64,e65,e66,hi,hj⟩;refine zs2 e65 e66 ?_;refine kaf (fun c2=>?_) (fun c2=>?_)
   ·have hi':i<ps.length:=by omega
    have ixi:idxA 2 lv (.int .i64 (i:Nat))=some (elA 2 lv i):=lA.idx ⟨by omega,by omega⟩;have ldi:=(lA.mono s4).loadA hi';rw[jef (q:Nat) vs i (by omega)]at ldi;have xwi:∃wi,wi=vs.getD i .nilslice:=⟨_,rfl⟩;obtain⟨wi,hwi⟩:=xwi;have Ri:=RV i hi';rw[<-hwi]at ldi Ri;have one:=Ri.one;refine zs7 e1 e9 e64 e66 ixi ldi lenA9 ?_;have gO5:(h4.push (.cells [wi,.int .i64 (q:Nat)] true 0)).get h2.size=some (.cells rows true 0):=(get_push_lt z4).trans gO;refine jae (fun j t h'=>∃(k:Nat) (rws:List AV),h'.get h2.size=some (.cells rws true 0)/\rws.length=ps.length/\HSub h2 h'/\h4.size<h'.size/\h'.get h4.size=some (.cells [wi,.int .i64 (q:Nat)] true 0)/\h4.size∉(rws.getD i .nilslice).ids/\
     (∀j,j<i->GrwI h2 h' (rws.getD j .nilslice) (tabRow d q ps j ps.length)/\h2.size∉(rws.getD j .nilslice).ids/\Dj (rws.getD j .nilslice) (rws.getD i .nilslice))/\GrwI h2 h' (rws.getD i .nilslice) (tabRow d q ps i k)/\h2.size∉(rws.getD i .nilslice).ids/\(∀j,i<j->j<ps.length->rws[j]? =some .nilslice)/\
     t 1=.int .i64 (q:Nat)/\t 9=lv/\t 14=.slice h2.size 0 ps.length (.known ps.length)/\t 15=.int .i64 (i:Nat)/\t 16=.ptr h4.size 0/\t 64=lv/\t 65=.int .i64 (ps.length:Nat)/\t 66=.int .i64 (i:Nat)/\t 71=lv/\t 72=.int .i64 (ps.length:Nat)/\t 73=.int .i64 (k:Nat)/\k<=ps.length/\j=ps.length-k) (j0:=ps.length)
     ⟨0,rows,gO5,hrl,s4.push _,by simp,get_push_eq rfl,?_,?_,?_,?_,?_,e1,e9,e14,rfl,rfl,e64,e65,e66,rfl,rfl,rfl,by omega,rfl⟩ ?_
    ·have:=hnil i (Nat.le_refl _) hi';rw[List.getD_eq_getElem?_getD,this];simp[AV.ids]
    ·intro j hj;have hni:=hnil i (Nat.le_refl _) hi';refine⟨(hrow j hj).1.mono (kac _ _),(hrow j hj).2,?_⟩;rw[List.getD_eq_getElem?_getD (i:=i),hni];exact kby
    ·have hni:=hnil i (Nat.le_refl _) hi';rw[List.getD_eq_getElem?_getD (i:=i),hni];exact kaV (s4.push _)
    ·have hni:=hnil i (Nat.le_refl _) hi';rw[List.getD_eq_getElem?_getD (i:=i),hni];simp[AV.ids]
    ·intro j hj hj2;exact hnil j (by omega) hj2
    rintro j t h5 ⟨k,rws,gO,hrl,s5,z5,g16,n16,hrow,hri,nri,hnil,e1,e9,e14,e15,e16,e64,e65,e66,e71,e72,e73,hk,hj⟩;refine zs2 e72 e73 ?_;refine kaf (fun c3=>?_) (fun c3=>?_)
    ·have hk':k<ps.length:=by omega
     have ixk:idxA 2 lv (.int .i64 (k:Nat))=some (elA 2 lv k):=lA.idx ⟨by omega,by omega⟩;have ldk:=(lA.mono s5).loadA hk';rw[jef (q:Nat) vs k (by omega)]at ldk;have xwk:∃wk,wk=vs.getD k .nilslice:=⟨_,rfl⟩;obtain⟨wk,hwk⟩:=xwk;have Rk:=RV k hk';rw[<-hwk]at ldk Rk;have onek:=Rk.one;have xr:∃ri,ri=rws.getD i .nilslice:=⟨_,rfl⟩;obtain⟨ri,hrid⟩:=xr;rw[<-hrid]at hri nri n16;have rget:rws[i]? =some ri:=by rw[hrid];simp[List.getD_eq_getElem?_getD,show i<rws.length by omega]
     by_cases cik:i=k
     ·subst cik;have sx:=tabRow_succ d q ps i i;rw[if_pos rfl]at sx;have sl:=tabRow_length d q ps i i;refine zs7 e1 e14 e15 e16 e71 e73 (zI ixk (zI ldk (zI gO (zI rget g16)))) ?_;refine kal (fun H hH=>?_);have N:H.size=h5.size+15:=by rw[hH];exact ze
      have gH:∀j,j<h5.size->H.get j=h5.get j:=by
       intro j hj;rw[hH,Heap.get_reserve,get_push_lt hj]
      have gN:∀j,h5.size+1<=j->H.get j=none:=by
       intro j hj;rw[hH,Heap.get_reserve];exact Heap.wf _ j (by simpa using hj)
      have hs5:HSub h5 H:=⟨by omega,gH⟩;clear hH;have gO6:=(gH _ (by omega)).trans gO;have gp:=jjy hC (o1:=(q:Nat)) (o2:=(q:Nat)) (mg:=q) (h:=H) (Ri.mono (s5.trans hs5)) (Rk.mono (s5.trans hs5)) (jaZ _ _ _) (jaZ _ _ _) ⟨by simp only[sz],by rw[sz];omega,by rw[sz];omega⟩ (by omega);refine kaa gp ?_;have ap:=fun b=>kbc (H:=H.put (h5.size+1+10) b) (k:=h5.size+1+11) (m:=1) (bytes:=8) (news:=[.int .i64 (greatI (sampL d (ps.getD i 0) q) (sampL d (ps.getD i 0) q) q)]) hri (fun j hj=>by rw[get_put_ne (by have:=(Grw.ids_lt hri j hj).2;omega)];exact gH j (Grw.ids_lt hri j hj).2) ⟨by omega,by simp only[Heap.size_put];omega⟩ (by decide) (by omega) (by rfl)
      rw[ints_snoc,<-sx,sl]at ap;have g10:=gN (h5.size+1+10) (by omega);have g11:=gN (h5.size+1+11) (by omega);refine zs7 g10 g11 @cont_slice @contB_one ap @appK_none e14 ?_;refine⟨gH _ (by omega),?_⟩;have gF:=fun b=>(jee (H:=H.put (h5.size+1+10) b) (k:=h5.size+1+11) (v:=ri) (sz:=1) (cs:=ints (tabRow d q ps i (i+1))) (j:=h2.size) (by omega) nri).trans ((get_put_ne (by omega)).trans gO6);have zF:=fun b=>jeU (H:=H.put (h5.size+1+10) b) (k:=h5.size+1+11) (v:=ri) (sz:=1) (cs:=ints (tabRow d q ps i (i+1)));have rF:=fun b=>jgG (H:=H.put (h5.size+1+10) b) (k:=h5.size+1+11) (v:=ri) (sz:=1) (cs:=ints (tabRow d q ps i (i+1))) (by simp only[Heap.size_put];omega)
      have bF:=fun b=>jig (H:=H.put (h5.size+1+10) b) (k:=h5.size+1+11) (ds:=ints (tabRow d q ps i (i+1))) hri ((s5.trans hs5).put (by omega) b) (by omega);have oF:=fun b (j:Nat) (hj:j<h5.size) (hv:j∉ri.ids)=>(jee (H:=H.put (h5.size+1+10) b) (k:=h5.size+1+11) (v:=ri) (sz:=1) (cs:=ints (tabRow d q ps i (i+1))) (j:=j) (by omega) hv).trans ((get_put_ne (by omega)).trans (gH j hj));simp only[Heap.size_put]at zF;refine zs7 gF e15 e1 e9 e14 e16 (zI e64 (zI e65 (zI e66 (zI e71 (zI e72 e73))))) ?_;have nw:∀j,j<i->(rws.set i (.slice (h5.size+1+11) 0 (i+1) (.unk 0))).getD j .nilslice=rws.getD j .nilslice:=fun j hj=>by simp[List.getD_eq_getElem?_getD,List.getElem?_set,show ¬i=j by omega]
      have ne':(rws.set i (.slice (h5.size+1+11) 0 (i+1) (.unk 0))).getD i .nilslice=.slice (h5.size+1+11) 0 (i+1) (.unk 0):=by simp[List.getD_eq_getElem?_getD,List.getElem?_set,show i<rws.length by omega]
      refine⟨_,⟨i+1,rws.set i (.slice (h5.size+1+11) 0 (i+1) (.unk 0)),get_put_eq rfl (by rw[zF];omega),by simp[hrl],(bF _).put (Nat.le_refl _) _,by rw[zF];omega,(oF _ _ z5 n16).trans g16,by rw[ne'];simp only[AV.ids,List.mem_singleton];omega,fun j hj=>?_,?_,by rw[ne'];simp only[AV.ids,List.mem_singleton];omega,fun j hj hj2=>?_,by simp,by omega,rfl⟩,by omega⟩
      ·rw[nw j hj,ne'];obtain⟨B,nb,dj⟩:=hrow j hj;rw[<-hrid]at dj;refine⟨kbn B ((bF _).put (Nat.le_refl _) _) (fun x hx=>?_),nb,fun x hx hy=>?_⟩
       ·have xl:=(Grw.ids_lt B x hx).2;exact(get_put_ne (fun(e:x=h2.size)=>nb (by rw[<-e];exact hx))).trans (oF _ x xl (dj x hx))
       ·have xl:=(Grw.ids_lt B x hx).2;simp only[AV.ids,List.mem_singleton]at hy;omega
      ·rw[ne'];exact jmP ((bF _).put (Nat.le_refl _) _) (by omega) ⟨(tabRow_length _ _ _ _ _).symm,by rw[tabRow_length];omega⟩ ((get_put_ne (by omega)).trans (rF _))
      ·rw[List.getElem?_set,if_neg (by omega)];exact hnil j hj hj2
     ·have cik':¬((i:Nat):Int)=(k:Nat):=by omega
      have sx:=tabRow_succ d q ps i k;rw[if_neg cik]at sx;have sl:=tabRow_length d q ps i k;refine zs7 e1 e14 e15 e16 e71 e73 (zI ixk (zI ldk (zI gO (zI rget g16)))) ?_;refine kal (fun H hH=>?_);have N:H.size=h5.size+15:=by rw[hH];exact ze
      have gH:∀j,j<h5.size->H.get j=h5.get j:=by
       intro j hj;rw[hH,Heap.get_reserve,get_push_lt hj]
      have gN:∀j,h5.size+1<=j->H.get j=none:=by
       intro j hj;rw[hH,Heap.get_reserve];exact Heap.wf _ j (by simpa using hj)
      have hs5:HSub h5 H:=⟨by omega,gH⟩;clear hH;have gO6:=(gH _ (by omega)).trans gO;have gp:=jjy hC (o1:=(q:Nat)) (o2:=(q:Nat)) (mg:=0) (h:=H) (Ri.mono (s5.trans hs5)) (Rk.mono (s5.trans hs5)) (jaZ _ _ _) (jaZ _ _ _) ⟨by simp only[sz],by rw[sz];omega,by rw[sz];omega⟩ (by omega);refine kaa gp ?_;have ap:=fun b=>kbc (H:=H.put (h5.size+1+10) b) (k:=h5.size+1+11) (m:=1) (bytes:=8) (news:=[.int .i64 (greatI (sampL d (ps.getD i 0) q) (sampL d (ps.getD k 0) q) 0)]) hri (fun j hj=>by rw[get_put_ne (by have:=(Grw.ids_lt hri j hj).2;omega)];exact gH j (Grw.ids_lt hri j hj).2) ⟨by omega,by simp only[Heap.size_put];omega⟩ (by decide) (by omega) (by rfl)
      rw[ints_snoc,<-sx,sl]at ap;have g10:=gN (h5.size+1+10) (by omega);have g11:=gN (h5.size+1+11) (by omega);refine zs7 g10 g11 @cont_slice @contB_one ap @appK_none e14 ?_;refine⟨gH _ (by omega),?_⟩;have gF:=fun b=>(jee (H:=H.put (h5.size+1+10) b) (k:=h5.size+1+11) (v:=ri) (sz:=1) (cs:=ints (tabRow d q ps i (k+1))) (j:=h2.size) (by omega) nri).trans ((get_put_ne (by omega)).trans gO6);have zF:=fun b=>jeU (H:=H.put (h5.size+1+10) b) (k:=h5.size+1+11) (v:=ri) (sz:=1) (cs:=ints (tabRow d q ps i (k+1)));have rF:=fun b=>jgG (H:=H.put (h5.size+1+10) b) (k:=h5.size+1+11) (v:=ri) (sz:=1) (cs:=ints (tabRow d q ps i (k+1))) (by simp only[Heap.size_put];omega)
      have bF:=fun b=>jig (H:=H.put (h5.size+1+10) b) (k:=h5.size+1+11) (ds:=ints (tabRow d q ps i (k+1))) hri ((s5.trans hs5).put (by omega) b) (by omega);have oF:=fun b (j:Nat) (hj:j<h5.size) (hv:j∉ri.ids)=>(jee (H:=H.put (h5.size+1+10) b) (k:=h5.size+1+11) (v:=ri) (sz:=1) (cs:=ints (tabRow d q ps i (k+1))) (j:=j) (by omega) hv).trans ((get_put_ne (by omega)).trans (gH j hj));simp only[Heap.size_put]at zF;refine zs7 gF e15 e1 e9 e14 e16 (zI e64 (zI e65 (zI e66 (zI e71 (zI e72 e73))))) ?_;have nw:∀j,j<i->(rws.set i (.slice (h5.size+1+11) 0 (k+1) (.unk 0))).getD j .nilslice=rws.getD j .nilslice:=fun j hj=>by simp[List.getD_eq_getElem?_getD,List.getElem?_set,show ¬i=j by omega]
      have ne':(rws.set i (.slice (h5.size+1+11) 0 (k+1) (.unk 0))).getD i .nilslice=.slice (h5.size+1+11) 0 (k+1) (.unk 0):=by simp[List.getD_eq_getElem?_getD,List.getElem?_set,show i<rws.length by omega]
      refine⟨_,⟨k+1,rws.set i (.slice (h5.size+1+11) 0 (k+1) (.unk 0)),get_put_eq rfl (by rw[zF];omega),by simp[hrl],(bF _).put (Nat.le_refl _) _,by rw[zF];omega,(oF _ _ z5 n16).trans g16,by rw[ne'];simp only[AV.ids,List.mem_singleton];omega,fun j hj=>?_,?_,by rw[ne'];simp only[AV.ids,List.mem_singleton];omega,fun j hj hj2=>?_,by simp,by omega,rfl⟩,by omega⟩
      ·rw[nw j hj,ne'];obtain⟨B,nb,dj⟩:=hrow j hj;rw[<-hrid]at dj;refine⟨kbn B ((bF _).put (Nat.le_refl _) _) (fun x hx=>?_),nb,fun x hx hy=>?_⟩
       ·have xl:=(Grw.ids_lt B x hx).2;exact(get_put_ne (fun(e:x=h2.size)=>nb (by rw[<-e];exact hx))).trans (oF _ x xl (dj x hx))
       ·have xl:=(Grw.ids_lt B x hx).2;simp only[AV.ids,List.mem_singleton]at hy;omega
      ·rw[ne'];exact jmP ((bF _).put (Nat.le_refl _) _) (by omega) ⟨(tabRow_length _ _ _ _ _).symm,by rw[tabRow_length];omega⟩ ((get_put_ne (by omega)).trans (rF _))
      ·rw[List.getElem?_set,if_neg (by omega)];exact hnil j hj hj2
    ·have ek:k=ps.length:=by omega
     subst ek;refine zs6 e1 e9 e14 e64 e65 e66 ?_;refine⟨_,⟨i+1,rws,gO,hrl,s5,by omega,fun j hj=>?_,fun j hj hj2=>hnil j (by omega) hj2,by simp,by omega,rfl⟩,by omega⟩;rcases Nat.lt_or_ge j i with x|x
     ·exact⟨(hrow j x).1,(hrow j x).2.1⟩
     ·have:j=i:=by omega
      subst this;exact⟨hri,nri⟩
   ·have ei:i=ps.length:=by omega
    subst ei;have tl:(tblL d q ps).length=ps.length:=by simp[tblL]
    refine zs1 e14 ?_;refine fin3 _ _ (A.sub.trans s4) ⟨rows,⟨by rw[tl,Nat.mul_one];exact hrl,by rw[tl];omega,.inr ⟨h2.size,0,.known ps.length,rows,true,0,by rw[tl],gO,by rw[tl];omega,by rw[tl];exact jmH (by omega),by rw[tl];exact Nat.le_refl _⟩⟩,by rw[tl];exact hrl,fun j hj=>?_⟩;have hj':j<ps.length:=by simpa[tblL]using hj
    have e:(tblL d q ps).getD j []=tabRow d q ps j ps.length:=by simp[tblL,hj']
    rw[e];exact(hrow j hj').1.ri
 ·have pe:tabErr d o ps=2:=by unfold tabErr;rw[if_pos ck]
  have ck2:jax d o=2:=by unfold jax at ck|-;split at ck<;>first|exact absurd rfl ck|(rename_i h;rw[if_neg h])
  refine zf 172 B172 hC ?_;simp only[B172,zB];refine zs ?_;refine kaa (jb8 hC hd ho) ?_;rw[ck2];refine zs ?_;exact fin _ _ (kag _) pe (by decide)
def lookB(ks:AKey)(z:AV)(comma:Bool)(k:AV):Option ABlk->Option AV
 |some (.map es)=>if(keyEq ks k k).isSome=true then(findA ks k es 0).map (giveA z comma)else none
 |_=>none
def updB(h:Heap)(i:Nat)(ks:AKey)(k v:AV):Option ABlk->Option Heap
 |some (.map es)=>if(keyEq ks k k).isSome=true then(setA ks k v es).map fun es'=>h.put i (.map es')else none
 |_=>none
def jfw(nid:Option Nat)(h:Heap):Option (AV×Heap):=if h.room nid=true then some (.map (h.nid nid),h.new nid (.map []))else none
theorem jpg{K:AV->Heap->Prop}{ks:AKey}{z:AV}{comma:Bool}{m k:AOpd}: @opR nid (.lookup ks z comma m k) ev h ⟨K⟩=@opt1 (lookA h ks z comma (ev m) (ev k)) h ⟨K⟩:=by
 simp only[opR,aOp,pureA,opt1];cases lookA h ks z comma (ev m) (ev k)<;>rfl
theorem jph{K:AV->Heap->Prop}{ks:AKey}{m k v:AOpd}: @opR nid (.mapUpd ks m k v) ev h ⟨K⟩=@opt2 (storeOA (jcl h ks (ev m) (ev k) (ev v))) ⟨K⟩:=by
 simp only[opR,aOp,opt2];cases jcl h ks (ev m) (ev k) (ev v)<;>rfl
theorem jne{K:AV->Heap->Prop}: @opR nid .makeMap ev h ⟨K⟩=@opt2 (jfw nid h) ⟨K⟩:=by
 simp only[opR,aOp,opt2,jfw];split<;>simp_all
theorem jnf{n:Nat}:jfw (some n) h=kept n h (h.get n) (fun n _ p=>some (.map n,p (.map []))):=by
 simp only[jfw,jeB,kept];cases hg:h.get n with
 |none=>by_cases hn:n<h.size<;>simp[hn,Heap.nid,Heap.new]
 |some b=>simp
theorem jsx{ks:AKey}{z:AV}{comma:Bool}{k:AV}:lookA h ks z comma (.map i) k=lookB ks z comma k (h.get i):=by
 unfold lookA lookB;dsimp only;cases h.get i with
 |none=>rfl
 |some b=>cases b<;>rfl
theorem jt3{ks:AKey}{k:AV}:jcl h ks (.map i) k v=updB h i ks k v (h.get i):=by
 unfold jcl updB;dsimp only;cases h.get i with
 |none=>rfl
 |some b=>cases b<;>rfl
theorem wpMap:
  (∀{ks:AKey} {z:AV} {c:Bool} {m k:AOpd} {ev:AOpd->AV} {n:Nat},footA (.lookup ks z c m k) ev n=(ev m).ids)/\
  (∀{ks:AKey} {z:AV} {c:Bool} {m k:AOpd} {ev:AOpd->AV} {n:Nat},wrA (.lookup ks z c m k) ev n=[])/\
  (∀{ks:AKey} {m k v:AOpd} {ev:AOpd->AV} {n:Nat},footA (.mapUpd ks m k v) ev n=(ev m).ids)/\
  (∀{ks:AKey} {m k v:AOpd} {ev:AOpd->AV} {n:Nat},wrA (.mapUpd ks m k v) ev n=(ev m).ids)/\
  (∀{ev:AOpd->AV} {n:Nat},footA .makeMap ev n=[n])/\(∀{ev:AOpd->AV} {n:Nat},wrA .makeMap ev n=[n])/\
  (∀{i:Nat},AV.ids (.map i)=[i])/\(∀{i:Nat},AV.cells (.map i)=[.map i])/\(AV.cells .nilmap=[.nilmap])/\
  (∀{i:Nat},AV.one (.map i)=true)/\(AV.one .nilmap=true)/\
  (∀{nid:Option Nat} {ev:AOpd->AV} {h:Heap} {K:AV->Heap->Prop} {ks:AKey} {z:AV} {comma:Bool} {m k:AOpd},@opR nid (.lookup ks z comma m k) ev h ⟨K⟩=@opt1 (lookA h ks z comma (ev m) (ev k)) h ⟨K⟩)/\
  (∀{nid:Option Nat} {ev:AOpd->AV} {h:Heap} {K:AV->Heap->Prop} {ks:AKey} {m k v:AOpd},@opR nid (.mapUpd ks m k v) ev h ⟨K⟩=@opt2 (storeOA (jcl h ks (ev m) (ev k) (ev v))) ⟨K⟩)/\
  (∀{nid:Option Nat} {ev:AOpd->AV} {h:Heap} {K:AV->Heap->Prop},@opR nid .makeMap ev h ⟨K⟩=@opt2 (jfw nid h) ⟨K⟩)/\
  (∀{h:Heap},jfw none h=some (.map h.size,h.push (.map [])))/\
  (∀{n:Nat} {h:Heap},jfw (some n) h=kept n h (h.get n) (fun n _ p=>some (.map n,p (.map []))))/\
  (∀{h:Heap} {ks:AKey} {z:AV} {comma:Bool} {i:Nat} {k:AV},lookA h ks z comma (.map i) k=lookB ks z comma k (h.get i))/\
  (∀{h:Heap} {ks:AKey} {i:Nat} {k v:AV},jcl h ks (.map i) k v=updB h i ks k v (h.get i))/\
  (∀{z:List AV} {o i:Nat} {rest:List (Nat×Nat×AV)},o<z.length->fillA z ((o,1,.map i)::rest)=fillA (z.set o (.map i)) rest)/\
  (∀{z:List AV} {o:Nat} {rest:List (Nat×Nat×AV)},o<z.length->fillA z ((o,1,.nilmap)::rest)=fillA (z.set o .nilmap) rest):=
 ⟨rfl,rfl,rfl,rfl,rfl,rfl,rfl,rfl,rfl,rfl,rfl,jpg,jph,jne,rfl,jnf,jsx,jt3,fun ho=>fill_one rfl ho,fun ho=>fill_one rfl ho⟩
def gErr(b s:Int):Int:=if 2<=b/\b<=8/\0<=s/\s<=30 then 0 else 2
def gA(b s:Int):AV:=.agg [.int .i64 b,.int .i64 s]
def coarI(s:Int):Int:=2^s.toNat/2
theorem jcs{s:Int}(h:gErr b s=0):2<=b/\b<=8/\0<=s/\s<=30:=by
 unfold gErr at h;split at h
 ·assumption
 ·cases h
theorem jgN(b s:Int):gErr b s=0\/gErr b s=2:=by unfold gErr;split<;>simp
theorem jcP{s:Int}(h:0<=s/\s<=30):1<=(2:Int)^s.toNat/\(2:Int)^s.toNat<=1073741824:=by
 obtain⟨k,rfl⟩:=Int.eq_ofNat_of_zero_le h.1;rw[Int.toNat_natCast];have e:(2:Int)^k=((2^k:Nat):Int):=by rw[Int.natCast_pow];rfl
 have h1:(2:Nat)^k<=2^30:=Nat.pow_le_pow_right (by decide) (by omega);have h2:1<=(2:Nat)^k:=Nat.one_le_two_pow;have h3:(2:Nat)^30=1073741824:=by decide
 rw[e];generalize (2:Nat)^k=q at*;omega
theorem jdd(hC:Has C TA){s:Int}:ACalls C 357 [gA b s] h (fun r h'=>r=.int .i64 (gErr b s)/\h'=h):=by
 refine kae (P:=fun r h'=>r=.int .i64 (gErr b s)/\HSub h h') ?_ (fun r h' hp=>⟨by rw[hp.1];trivial,hp.2,hp.1,rfl⟩);unfold gErr gA;by_cases c1:b<2
 ·rw[if_neg (by omega)];refine zf 357 B357 hC ?_;simp only[B357,zB];refine zs2 @c1 @gV_u ?_;exact kac _ _
 by_cases c2:8<b
 ·rw[if_neg (by omega)];refine zf 357 B357 hC ?_;simp only[B357,zB];refine zs3 @c1 @c2 @gV_u ?_;exact kac _ _
 by_cases c3:s<0
 ·rw[if_neg (by omega)];refine zf 357 B357 hC ?_;simp only[B357,zB];refine zs4 @c1 @c2 @c3 @gV_u ?_;exact kac _ _
 by_cases c4:30<s
 ·rw[if_neg (by omega)];refine zf 357 B357 hC ?_;simp only[B357,zB];refine zs5 @c1 @c2 @c3 @c4 @gV_u ?_;exact kac _ _
 rw[if_pos (by omega)];refine zf 357 B357 hC ?_;simp only[B357,zB];refine zs5 @c1 @c2 @c3 @c4 @gV_u ?_;exact kac _ _
theorem jfx(hC:Has C TA){s:Int}:ACalls C 352 [gA b s] h (fun r h'=>r=.int .i64 (gErr b s)/\h'=h):=by
 refine kae (P:=fun r h'=>r=.int .i64 (gErr b s)/\HSub h h') ?_ (fun r h' hp=>⟨by rw[hp.1];trivial,hp.2,hp.1,rfl⟩);unfold gErr gA;by_cases c1:b<2
 ·rw[if_neg (by omega)];refine zf 352 B352 hC ?_;simp only[B352,zB];refine zs2 @c1 @gV_u ?_;exact kac _ _
 by_cases c2:8<b
 ·rw[if_neg (by omega)];refine zf 352 B352 hC ?_;simp only[B352,zB];refine zs3 @c1 @c2 @gV_u ?_;exact kac _ _
 by_cases c3:s<0
 ·rw[if_neg (by omega)];refine zf 352 B352 hC ?_;simp only[B352,zB];refine zs4 @c1 @c2 @c3 @gV_u ?_;exact kac _ _
 by_cases c4:30<s
 ·rw[if_neg (by omega)];refine zf 352 B352 hC ?_;simp only[B352,zB];refine zs5 @c1 @c2 @c3 @c4 @gV_u ?_;exact kac _ _
 rw[if_pos (by omega)];refine zf 352 B352 hC ?_;simp only[B352,zB];refine zs5 @c1 @c2 @c3 @c4 @gV_u ?_;exact kac _ _
def coarE(b s:Int):AV:=if gErr b s=0 then tup2 (coarI s) 0 else tup2 0 2
theorem jlU(hC:Has C TA){s:Int}:ACalls C 351 [gA b s] h (fun r h'=>r=coarE b s/\h'=h):=by
 refine kae (P:=fun r h'=>r=coarE b s/\HSub h h') ?_ (fun r h' hp=>⟨by rw[hp.1];unfold coarE tup2;split<;>exact⟨trivial,trivial,trivial⟩,hp.2,hp.1,rfl⟩);have kc:=fun h=>jdd (b:=b) (s:=s) (h:=h) hC;unfold coarE coarI;unfold gA at kc|-;rcases jgN b s with c|c
 ·rw[if_pos c];have g:=jcs c;have p:=jcP g.2.2;rw[c]at kc;generalize hP:(2:Int)^s.toNat=P at*;refine zf 351 B351 hC ?_;simp only[B351,zB];refine zs ?_;refine kaa (kc _) (zs ?_);rw[hP,Int.one_mul];exact⟨rfl,kac _ _⟩
 ·rw[if_neg (by omega)];rw[c]at kc;refine zf 351 B351 hC ?_;simp only[B351,zB];refine zs ?_;refine kaa (kc _) (zs ?_);exact⟨rfl,kac _ _⟩
theorem jlV(hC:Has C TA){s:Int}:ACalls C 348 [gA b s] h (fun r h'=>r=coarE b s/\h'=h):=by
 refine kae (P:=fun r h'=>r=coarE b s/\HSub h h') ?_ (fun r h' hp=>⟨by rw[hp.1];unfold coarE tup2;split<;>exact⟨trivial,trivial,trivial⟩,hp.2,hp.1,rfl⟩);have kc:=fun h=>jfx (b:=b) (s:=s) (h:=h) hC;unfold coarE coarI;unfold gA at kc|-;rcases jgN b s with c|c
 ·rw[if_pos c];have g:=jcs c;have p:=jcP g.2.2;rw[c]at kc;generalize hP:(2:Int)^s.toNat=P at*;refine zf 348 B348 hC ?_;simp only[B348,zB];refine zs ?_;refine kaa (kc _) (zs ?_);rw[hP,Int.one_mul];exact⟨rfl,kac _ _⟩
 ·rw[if_neg (by omega)];rw[c]at kc;refine zf 348 B348 hC ?_;simp only[B348,zB];refine zs ?_;refine kaa (kc _) (zs ?_);exact⟨rfl,kac _ _⟩
def codeE(p:PlanP)(prn:Int):Int:=if prn∈p.prns then 0 else 18
def sampE(s:List (Int×Int)):Int:=if 1048576<s.length then 4 else if ∀x∈s,inS 127 x then 0 else 2
def placE(f m:Int):Int:=if f<0\/1048576<f\/m<1\/16<m then 2 else 0
def firstE:List Int->Int
 |[]=>0
 |x::l=>if x≠0 then x else firstE l
theorem jiv{k:Nat}(h:∀i,i<k->l.getD i 0=0):firstE l=firstE (l.drop k):=by
 induction k generalizing l with
 |zero=>rfl
 | succ k ih =>
  match l with
  |[]=>rfl
  |x::l=>
   have h0:=h 0 (by omega);rw[List.getD_cons_zero]at h0;rw[firstE,if_neg (by omega),List.drop_succ_cons];exact ih (fun i hi=>by have:=h (i+1) (by omega);rwa [List.getD_cons_succ]at this)
theorem jck(hC:Has C TA)(hl:RI h v l)(hb:l.length<=1000):ACalls C 375 [v] h (fun r h'=>r=.int .i64 (firstE l)/\h'=h):=by
 refine zf 375 B375 hC ?_;simp only[B375,zB];refine zs1 @hl.len ?_;refine jae (fun j t h'=>h'=h/\∃k:Nat,t 5=v/\t 6=.int .i64 (l.length:Nat)/\t 7=.int .i64 (k:Nat)/\(∀i,i<k->l.getD i 0=0)/\k<=l.length/\j=l.length-k) (j0:=l.length)
  ⟨rfl,0,rfl,rfl,rfl,fun i hi=>by omega,by omega,rfl⟩ ?_
 rintro j t h1 ⟨rfl,k,e5,e6,e7,hp,hk,hj⟩;refine zs2 e6 e7 ?_;refine kaf (fun c=>?_) (fun c=>?_)
 ·have hk':k<l.length:=by omega
  have fs:=jiv hp;rw[List.drop_eq_getElem_cons hk']at fs;have eg:l.getD k 0=l[k]:=by rw[List.getD_eq_getElem?_getD,List.getElem?_eq_getElem hk'];rfl
  have hp':l.getD k 0=0->∀i,i<k+1->l.getD i 0=0:=fun q i hi=>by
   rcases Nat.lt_or_ge i k with x|x
   ·exact hp i x
   ·have:i=k:=by omega
    rw[this];exact q
  have hf:¬l.getD k 0=0->firstE l=l.getD k 0:=fun q=>by rw[fs,<-eg,firstE,if_pos q]
  refine zs4 e5 e7 @hl.idx @hl.load ?_;refine kaf (fun c2=>?_) (fun c2=>?_)
  ·rw[hf c2];exact ze
  ·have q0:l.getD k 0=0:=by
    by_cases q:l.getD k 0=0
    ·exact q
    ·exact absurd q c2
   refine zs3 e5 e6 e7 ?_;exact⟨_,⟨k+1,by simp,hp' q0,by omega,rfl⟩,by omega⟩
 ·have ek:k=l.length:=by omega
  have fs:=jiv hp;rw[ek,List.drop_length]at fs;rw[fs];exact ze1 @firstE.eq_1
theorem jdm(hC:Has C TA)(R:RI h vp p.prns):ACalls C 376 [plA p vp,.int .i64 prn] h (fun r h'=>r=.int .i64 (codeE p prn)/\h'=h):=by
 refine kae (P:=fun r h'=>r=.int .i64 (codeE p prn)/\HSub h h') ?_ (fun r h' hp=>⟨by rw[hp.1];trivial,hp.2,hp.1,rfl⟩);have v1:=R.one;have k1:=fun h1 (q:HSub h h1)=>jbD hC (x:=prn) (R.mono q);have e:(p.prns.any fun y=>prn==y)=decide (prn∈p.prns):=by
  rw[Bool.eq_iff_iff];simp
 rw[e]at k1;unfold codeE plA;by_cases c:prn∈p.prns
 ·rw[if_pos c];rw[decide_eq_true c]at k1;refine zf 376 B376 hC ?_;simp only[B376,zB];refine zs ?_;refine kaa (k1 _ (kac _ _)) (zs ?_);exact kac _ _
 ·rw[if_neg c];rw[decide_eq_false c]at k1;refine zf 376 B376 hC ?_;simp only[B376,zB];refine zs ?_;refine kaa (k1 _ (kac _ _)) (zs ?_);exact kac _ _
theorem jbX(hC:Has C TA){m:Int}:ACalls C 378 [.int .i64 f,.int .i64 m] h (fun r h'=>r=.int .i64 (placE f m)/\h'=h):=by
 unfold placE;refine zf 378 B378 hC ?_;simp only[B378,zB];refine zs1 @gV_u ?_
 (repeat' (first|(refine kaf (fun _=>?_) (fun _=>?_))|(refine zs1 @gV_u ?_)))
 all_goals first
  |(rw[if_pos (by omega)];(refine zs ?_;try with_reducible trivial);done)
  |(rw[if_neg (by omega)];(refine zs ?_;try with_reducible trivial);done)
  |(split<;>first|(exfalso;omega)|(exact ze))
theorem jng(hC:Has C TA){x:Int}:ACalls C 385 [.int .i64 x] h (fun r h'=>r=.bool (!decide (-127<=x/\x<=127))/\h'=h):=by
 by_cases c:x< -127
 ·rw[decide_eq_false (show ¬(-127<=x/\x<=127)by omega)];refine zf 385 B385 hC ?_;simp only[B385,zB];exact ze2 c @gV_u
 ·by_cases c2:127<x
  ·rw[decide_eq_false (show ¬(-127<=x/\x<=127)by omega)];refine zf 385 B385 hC ?_;simp only[B385,zB];exact ze3 c c2 @gV_u
  ·rw[decide_eq_true (show-127<=x/\x<=127 by omega)];refine zf 385 B385 hC ?_;simp only[B385,zB];exact ze3 c c2 @gV_u
theorem jnh(hC:Has C TA)(hD:Has C TA){x:Int×Int}(g:h.get i=some (.cells [.func 385 [] []] true 0)):ACalls C 386 [smp x,.ptr i 0] h (fun r h'=>r=.bool (!decide (inS 127 x))/\h'=h):=by
 refine kae (P:=fun r h'=>r=.bool (!decide (inS 127 x))/\HSub h h') ?_ (fun r h' hp=>⟨by rw[hp.1];trivial,hp.2,hp.1,rfl⟩);have k1:=fun x h1=>jng hD (x:=x) (h:=h1);have hi:=kab g;obtain⟨a,b⟩:=x;have e:decide (inS 127 (a,b))=(decide (-127<=a/\a<=127)&&decide (-127<=b/\b<=127)):=by
  rw[Bool.eq_iff_iff,Bool.and_eq_true,decide_eq_true_eq,decide_eq_true_eq,decide_eq_true_eq];exact Iff.rfl
 rw[e];unfold smp;by_cases c: -127<=a/\a<=127
 ·have ka:=k1 a;rw[decide_eq_true c]at ka;rw[decide_eq_true c,Bool.true_and];refine zf 386 B386 hC ?_;simp only[B386,zB];refine zs1 g ?_;refine kaa (ka _) (zs1 g ?_);refine kaa (k1 b _) (zs ?_);exact zr
 ·have ka:=k1 a;rw[decide_eq_false c]at ka;rw[decide_eq_false c,Bool.false_and];refine zf 386 B386 hC ?_;simp only[B386,zB];refine zs1 g ?_;refine kaa (ka _) (zs1 @gV_u ?_);exact zr
theorem ji9(hC:Has C TA){v:AV}{l:List (Int×Int)}{g:Nat}{cs:List AV}{P:Int×Int->Prop} [DecidablePred P] {h:Heap} (hg:∀p,ACalls C g (smp p::cs) h (fun r h'=>r=.bool (!decide (P p))/\h'=h)) (hl:SI h v l):
  ACalls C 255 [v,.func g [] cs] h (fun r h'=>r=.bool (!decide (∀x∈l,P x))/\h'=h):=by
 have hlt:=hl.lt;have hI:ACalls C 260 [v,.func g [] cs] h (fun r h'=>(∃i:Int,r=.int .i64 i/\ -1<=i/\(0<=i↔¬∀x∈l,P x))/\h'=h):=by
  have hC':Has C TA:=hC;have hC:=hC';refine zf 260 B260 hC ?_;simp only[B260,zB];refine zs1 @hl.len ?_;refine jae (fun j t h'=>h'=h/\∃k:Nat,t 0=v/\t 1=.func g [] cs/\t 7=.int .i64 (l.length:Nat)/\t 8=.int .i64 (k:Nat)/\(∀i,i<k->P (l.getD i (0,0)))/\k<=l.length/\j=l.length-k) (j0:=l.length)
   ⟨rfl,0,rfl,rfl,rfl,rfl,fun i hi=>by omega,by omega,rfl⟩ ?_
  rintro j t h1 ⟨rfl,k,e0,e1,e7,e8,hp,hk,hj⟩;refine zs2 e7 e8 ?_;refine kaf (fun c=>?_) (fun c=>?_)
  ·have hk':k<l.length:=by omega
   have ld:=hl.loadA hk';refine zs5 e0 e1 e8 @hl.idx ld ?_;refine kaa (hg _) ?_;by_cases c2:P (l.getD k (0,0))
   ·refine zs5 c2 e0 e1 e7 e8 ?_;refine⟨_,⟨k+1,by simp,fun i hi=>?_,by omega,rfl⟩,by omega⟩;rcases Nat.lt_or_ge i k with x|x
    ·exact hp i x
    ·have:i=k:=by omega
     subst this;exact c2
   ·refine zs5 c2 e0 e1 e7 e8 ?_;refine⟨by omega,⟨fun _ q=>c2 (q _ (jcg hk')),fun _=>by omega⟩⟩
  ·have ek:k=l.length:=by omega
   refine zs ?_;refine⟨fun q=>q.elim,fun q=>absurd (fun x hx=>?_) q⟩;obtain⟨i,hi,rfl⟩:=List.getElem_of_mem hx;have:=hp i (by omega)
   rwa [List.getD_eq_getElem?_getD,List.getElem?_eq_getElem hi]at this
 refine zf 255 B255 hC ?_;simp only[B255,zB];refine zs ?_;refine kad hI ?_;rintro r h1 ⟨⟨i,rfl,h1,h2⟩,rfl⟩;refine zs ?_;by_cases c:∀x∈l,P x
 ·rw[decide_eq_true c];have:¬0<=i:=fun q=>h2.1 q c;simp[this]
 ·rw[decide_eq_false c];have:0<=i:=h2.2 c;simp[this]
theorem jbM(hC:Has C TA)(hs:SI h v s):ACalls C 377 [v] h (fun r h'=>r=.int .i64 (sampE s)/\h'=h):=by
 refine kae (P:=fun r h'=>r=.int .i64 (sampE s)/\HSub h h') ?_ (fun r h' hp=>⟨by rw[hp.1];trivial,hp.2,hp.1,rfl⟩);have hlt:=hs.lt;have kc:=fun h1 (q:HSub h h1) i (g:h1.get i=some (.cells [.func 385 [] []] true 0))=>ji9 hC (g:=386) (cs:=[.ptr i 0]) (P:=fun p=>inS 127 p) (fun p=>jnh hC hC g) (hs.mono q);unfold sampE;by_cases c:1048576<s.length
 ·rw[if_pos c];refine zf 377 B377 hC ?_;simp only[B377,zB];refine zs2 @hs.len @jea ?_;exact kag h
 ·rw[if_neg c];by_cases c2:∀x∈s,inS 127 x
  ·rw[if_pos c2];rw[decide_eq_true c2]at kc;refine zf 377 B377 hC ?_;simp only[B377,zB];refine zs2 @hs.len @jea ?_;refine kaa (kc (h.push (.cells [.func 385 [] []] true 0)) (kac _ _) h.size (by exact ze)) (zs ?_);exact kac _ _
  ·rw[if_neg c2];rw[decide_eq_false c2]at kc;refine zf 377 B377 hC ?_;simp only[B377,zB];refine zs2 @hs.len @jea ?_;refine kaa (kc (h.push (.cells [.func 385 [] []] true 0)) (kac _ _) h.size (by exact ze)) (zs ?_);exact kac _ _
theorem jcA(hC:Has C TA)(v1:vp.one=true)(pn:p.numsOk):ACalls C 387 [plA p vp] h (fun r h'=>r=.int .i64 p.size/\h'=h):=by
 refine kae (P:=fun r h'=>r=.int .i64 p.size/\HSub h h') ?_ (fun r h' hp=>⟨by rw[hp.1];trivial,hp.2,hp.1,rfl⟩);have sz:=jal pn;have d64:In64 p.d:=by have:=pn.1;unfold lenOk at this;unfold In64;simp at this;omega
 have kl:=fun h1=>jbh hC (h:=h1) d64;have el:lenE p.d=tup2 (lenN p.d:Nat) 0:=by unfold lenE;rw[if_pos pn.1]
 rw[el]at kl;have o':=pn.2.1;have ps:p.size=(lenN p.d:Nat)*p.o:=rfl;unfold plA;unfold tup2 at kl;refine zf 387 B387 hC ?_;simp only[B387,zB];refine zs ?_;refine kaa (kl _) (zs1 (Eq.symm ps) ?_);exact zr
theorem jf8(hC:Has C TA){p:Int×Int}:ACalls C 389 [smp p] h (fun r h'=>r=.int .i64 (powP p)/\h'=h):=by
 refine kae (P:=fun r h'=>r=.int .i64 (powP p)/\HSub h h') ?_ (fun r h' hp=>⟨by rw[hp.1];trivial,hp.2,hp.1,rfl⟩);unfold smp powP;refine zf 389 B389 hC ?_;simp only[B389,zB];refine zs ?_;exact zr
def fitB(s:List (Int×Int))(p:PlanP)(f m:Int):Bool:=decide (f+p.size-1+m*p.size<=s.length)
theorem jeG(hC:Has C TA){v vp:AV}{s:List (Int×Int)}{p:PlanP}{f m:Int}{h:Heap}(hs:SI h v s)(v1:vp.one=true)(pn:p.numsOk)(hf:0<=f/\f<=1048576)(hm:1<=m/\m<=16):
  ACalls C 379 [v,plA p vp,.int .i64 f,.int .i64 m] h (fun r h'=>r=.bool (fitB s p f m)/\h'=h):=by
 refine kae (P:=fun r h'=>r=.bool (fitB s p f m)/\HSub h h') ?_ (fun r h' hp=>⟨by rw[hp.1];trivial,hp.2,hp.1,rfl⟩);have sz:=jal pn;have hlt:=hs.lt;have kp:=fun h1=>jcA hC (h:=h1) v1 pn;have m1:0<=m*p.size:=Int.mul_nonneg (by omega) (by omega);have m2:m*p.size<=16*8184:=Int.mul_le_mul hm.2 sz.2.1 (by omega) (by omega);unfold fitB;generalize hms:m*p.size=ms at*;unfold plA at*;refine zf 379 B379 hC ?_;simp only[B379,zB];refine zs1 @hs.len ?_;refine kaa (kp _) (zs2 @hs.len @hms ?_);exact zr
abbrev keyP(x y:Int):AV:=.agg [.int .i64 x,.int .i64 y]
abbrev ksP:AKey:=.struct [(0,false),(1,false)]
def ents(f:Int->Int->Int)(K:List (Int×Int)):List (AV×AV):=K.map fun t=>(keyP t.1 t.2,.int .i64 (f t.1 t.2))
theorem jgO(x y a b:Int):keyEq ksP (keyP x y) (keyP a b)=some (x==a&&(y==b&&true)):=by
 simp[keyEq,jaB]
theorem jni{f:Int->Int->Int}{x y:Int}:∀{K:List (Int×Int)} {s:Nat},(x,y)∈K->∃j,findA ksP (keyP x y) (ents f K) s=some (some (j,.int .i64 (f x y)))
 |[],s,h=>by cases h
 | (a, b) :: K, s, h => by
  simp only[ents,List.map_cons,findA,jgO];by_cases c:x=a/\y=b
  ·obtain⟨rfl,rfl⟩:=c;exact⟨s,by simp⟩
  ·have e:(x==a&&(y==b&&true))=false:=by
    rcases Classical.em (x=a)with q|q
    ·subst q;have:¬y=b:=fun e=>c ⟨rfl,e⟩;simp[this]
    ·simp[q]
   rw[e];have h':(x,y)∈K:=by
    rcases List.mem_cons.1 h with q|q
    ·cases q;exact absurd ⟨rfl,rfl⟩ c
    ·exact q
   exact jni h'
theorem find_out{f:Int->Int->Int}{x y:Int}:∀{K:List (Int×Int)} {s:Nat},(x,y)∉K->findA ksP (keyP x y) (ents f K) s=some none
 |[],s,h=>rfl
 | (a, b) :: K, s, h => by
  simp only[ents,List.map_cons,findA,jgO];simp only[List.mem_cons,Prod.mk.injEq,not_or]at h;have e:(x==a&&(y==b&&true))=false:=by
   rcases Classical.em (x=a)with q|q
   ·subst q;have:¬y=b:=fun e=>h.1 ⟨rfl,e⟩;simp[this]
   ·simp[q]
  rw[e];exact find_out h.2
theorem jqV{f:Int->Int->Int}{x y:Int}{K:List (Int×Int)}{z:AV}(h:(x,y)∈K):lookB ksP z false (keyP x y) (some (.map (ents f K)))=some (.int .i64 (f x y)):=by
 obtain⟨j,e⟩:=jni (f:=f) (s:=0) h;simp only[lookB,jgO,Option.isSome_some,if_true,e,Option.map_some,giveA];rfl
theorem jsy{f:Int->Int->Int}{x y:Int}{K:List (Int×Int)}{z:AV}(h:(x,y)∈K):lookB ksP z true (keyP x y) (some (.map (ents f K)))=some (.tuple [.int .i64 (f x y),.bool true]):=by
 obtain⟨j,e⟩:=jni (f:=f) (s:=0) h;simp only[lookB,jgO,Option.isSome_some,if_true,e,Option.map_some,giveA]
theorem jqW{f:Int->Int->Int}{x y:Int}{K:List (Int×Int)}{z:AV}(h:(x,y)∉K):lookB ksP z true (keyP x y) (some (.map (ents f K)))=some (.tuple [z,.bool false]):=by
 simp only[lookB,jgO,Option.isSome_some,if_true,find_out h,Option.map_some,giveA]
theorem jt4{f:Int->Int->Int}{x y:Int}{K:List (Int×Int)}(hk:(x,y)∉K):updB h i ksP (keyP x y) (.int .i64 (f x y)) (some (.map (ents f K)))=some (h.put i (.map (ents f (K++[(x,y)])))):=by
 simp only[updB,jgO,Option.isSome_some,if_true,setA,find_out hk,Option.map_some];simp only[ents,List.map_append,List.map_cons,List.map_nil]
def grid(xs ys:List Int):List (Int×Int):=xs.flatMap fun a=>ys.map fun b=>(a,b)
theorem jf9{xs ys:List Int}{x y:Int}:(x,y)∈grid xs ys↔x∈xs/\y∈ys:=by
 simp[grid]
def jdO(ps:List Int)(i k:Nat):List (Int×Int):=grid (ps.take i) ps++(ps.take k).map fun b=>(ps.getD i 0,b)
theorem jhw{k:Nat}(hk:k<l.length):l.take (k+1)=l.take k++[l.getD k 0]:=by
 rw[List.take_succ_eq_append_getElem hk,List.getD_eq_getElem?_getD,List.getElem?_eq_getElem hk];rfl
theorem jnj{ps:List Int}{k:Nat}(hk:k<ps.length):jdO ps i (k+1)=jdO ps i k++[(ps.getD i 0,ps.getD k 0)]:=by
 simp[jdO,jhw hk]
theorem jpi{ps:List Int}(hi:i<ps.length):jdO ps i ps.length=jdO ps (i+1) 0:=by
 simp[jdO,jhw hi,grid]
theorem jpj(ps:List Int):jdO ps ps.length 0=grid ps ps:=by simp[jdO]
theorem jlW{ps:List Int}(hn:ps.Nodup){k:Nat}(hi:i<ps.length)(hk:k<ps.length)(e:ps.getD i 0=ps.getD k 0):i=k:=by
 rw[List.getD_eq_getElem?_getD,List.getD_eq_getElem?_getD,List.getElem?_eq_getElem hi,List.getElem?_eq_getElem hk,Option.getD_some,Option.getD_some]at e;have P:=List.pairwise_iff_getElem.1 hn;rcases Nat.lt_trichotomy i k with c|c|c
 ·exact absurd e (P i k hi hk c)
 ·exact c
 ·exact absurd e.symm (P k i hk hi c)
theorem jdn{ps:List Int}(hn:ps.Nodup)(hi:i<ps.length):ps.getD i 0∉ps.take i:=by
 intro h;obtain⟨j,hj,e⟩:=List.mem_iff_getElem.1 h;have hjl:j<min i ps.length:=by simpa using hj
 have hj2:j<ps.length:=by omega
 rw[List.getElem_take]at e;have:=jlW hn hj2 hi (by rw[List.getD_eq_getElem?_getD (i:=j),List.getElem?_eq_getElem hj2];exact e);omega
theorem jpk{ps:List Int}(hn:ps.Nodup){k:Nat}(hi:i<ps.length)(hk:k<ps.length):(ps.getD i 0,ps.getD k 0)∉jdO ps i k:=by
 simp only[jdO,List.mem_append,jf9,List.mem_map,Prod.mk.injEq,not_or,not_and,not_exists];exact⟨fun h=>absurd h (jdn hn hi),fun x hx _ e=>jdn hn hk (e▸hx)⟩
theorem jg7{n:Int}:∀{xs seen:List Int},jbi n seen xs=0->(∀x∈xs,1<=x/\x<=n+2)/\xs.Nodup/\∀x∈xs,x∉seen
 |[],seen,h=>⟨by simp,by simp,by simp⟩
 | x :: xs, seen, h => by
  unfold jbi at h;split at h
  ·cases h
  ·rename_i c1;split at h
   ·cases h
   ·rename_i c2;obtain⟨h1,h2,h3⟩:=jg7 h;have hx:x∉seen:=fun hm=>c2 (List.any_eq_true.2 ⟨x,hm,by simp⟩);have c1':1<=x/\x<=n+2:=Classical.not_not.1 c1;refine⟨fun y hy=>?_,?_,fun y hy=>?_⟩
    ·rcases List.mem_cons.1 hy with rfl|hy
     ·exact c1'
     ·exact h1 y hy
    ·exact List.nodup_cons.2 ⟨fun hm=>h3 x hm (by simp),h2⟩
    ·rcases List.mem_cons.1 hy with rfl|hy
     ·exact hx
     ·exact fun hm=>h3 y hy (by simp[hm])
structure PlanOk (p:PlanP):Prop where
 nums:p.numsOk
 len:1<=p.prns.length/\p.prns.length<=8
 prn:∀x∈p.prns,1<=x/\x<=lenN p.d+2
 nodup:p.prns.Nodup
theorem jdP(h:p.err=0):PlanOk p:=by
 unfold PlanP.err at h;split at h
 ·rename_i c1;split at h
  ·cases h
  ·split at h
   ·cases h
   ·obtain⟨h1,h2,_⟩:=jg7 h;exact⟨c1,by omega,h1,h2⟩
 ·cases h
theorem PlanOk.code(ok:PlanOk p){x:Int}(hx:x∈p.prns):jaG p.d x=0:=by
 unfold jaG;rw[if_pos ⟨ok.nums.1,(ok.prn x hx).1,(ok.prn x hx).2⟩]
theorem PlanOk.tabE{p:PlanP}(ok:PlanOk p):∀k,k<=p.prns.length->tabE p.d p.prns k=0
 |0,_=>rfl
 | k + 1, hk => by
  rw[Ae.tabE,if_neg (by rw[ok.tabE k (by omega)];decide),if_neg,if_neg]
  ·intro h;obtain⟨y,hy,e⟩:=List.any_eq_true.1 h;have:p.prns.getD k 0=y:=by simpa using e
   exact jdn ok.nodup (by omega) (this▸hy)
  ·rw[ok.code (jam (by omega))];decide
theorem PlanOk.known(ok:PlanOk p):jax p.d p.o=0:=by
 unfold jax;rw[if_pos ⟨ok.nums.1,ok.nums.2.1⟩]
theorem PlanOk.tab(ok:PlanOk p):tabErr p.d p.o p.prns=0:=by
 unfold tabErr;rw[if_neg (by rw[ok.known];decide),if_neg (by have:=ok.len;omega),if_neg (by have:=ok.len;omega),ok.tabE _ (Nat.le_refl _)]
theorem PlanOk.samp(ok:PlanOk p){xs:List Int}(h:∀x∈xs,x∈p.prns):jaA p.d p.o xs=0:=by
 unfold jaA;rw[if_pos ⟨ok.known,fun x hx=>ok.code (h x hx)⟩]
def sumI(d o a b:Int):Int:=greatI (sampL d a o.toNat) (sampL d b o.toNat) (if a=b then o.toNat else 0)
theorem PlanOk.tbl(ok:PlanOk p){k:Nat}(hi:i<p.prns.length)(hk:k<p.prns.length):((tblL p.d p.o.toNat p.prns).getD i []).getD k 0=sumI p.d p.o (p.prns.getD i 0) (p.prns.getD k 0):=by
 have e:(i=k)=(p.prns.getD i 0=p.prns.getD k 0):=propext ⟨fun e=>by rw[e],fun e=>jlW ok.nodup hi hk e⟩;simp only[tblL,List.getD_eq_getElem?_getD,List.getElem?_map,List.getElem?_range hi,Option.map_some,Option.getD_some,tabRow,List.getElem?_range hk,sumI];simp only[List.getD_eq_getElem?_getD]at e;simp only[e]
def wpI(s:List (Int×Int))(c:List Int)(a:Int):Int:=powP (sumP s c a)
def pwK(s:List (Int×Int))(c:List Int)(a w:Int):Nat->Int
 |0=>0
 |k+1=>pwK s c a w k+wpI s c (a+(k:Nat)*w)
def scanL(s:List (Int×Int))(c:List Int)(f w:Int)(m n:Nat):List Int:=(List.range n).map fun i=>pwK s c (f+(i:Nat)) w m
theorem jg8(s:List (Int×Int))(c:List Int)(f w:Int)(m n:Nat):(scanL s c f w m n).length=n:=by simp[scanL]
theorem jga{c:List Int}{w:Int}{m n:Nat}(h:i<n):(scanL s c f w m n).getD i 0=pwK s c (f+(i:Nat)) w m:=by simp[scanL,List.getD_eq_getElem?_getD,h]
def bstK(l:List Int):Nat->Nat
 |0=>0
 |k+1=>if l.getD (bstK l k) 0<l.getD k 0 then k else bstK l k
theorem jiw(l:List Int)(k:Nat):bstK l k<k\/bstK l k=0:=by
 induction k with
 |zero=>exact .inr rfl
 |succ k ih=>
  unfold bstK;split<;>omega
theorem jix{x:Int×Int}(h:inS 1039368 x):powP x=x.1*x.1+x.2*x.2/\0<=powP x/\powP x<=2200000000000:=by
 unfold inS at h;have a:=jjB (k:=x.1) (s:=x.1) (K:=1039368) (S:=1039368) h.1 h.1;have b:=jjB (k:=x.2) (s:=x.2) (K:=1039368) (S:=1039368) h.2 h.2;have c:0<=x.1*x.1:=by
  rcases Int.lt_or_le x.1 0 with q|q
  ·have:=Int.mul_nonneg (show 0<= -x.1 by omega) (show 0<= -x.1 by omega)
   rwa [Int.neg_mul_neg]at this
  ·exact Int.mul_nonneg q q
 have d:0<=x.2*x.2:=by
  rcases Int.lt_or_le x.2 0 with q|q
  ·have:=Int.mul_nonneg (show 0<= -x.2 by omega) (show 0<= -x.2 by omega)
   rwa [Int.neg_mul_neg]at this
  ·exact Int.mul_nonneg q q
 have e:powP x=x.1*x.1+x.2*x.2:=by
  unfold powP;have e1:=w_i64 (x:=x.1*x.1) (by omega);have e2:=w_i64 (x:=x.2*x.2) (by omega);have e3:=w_i64 (x:=x.1*x.1+x.2*x.2) (by omega);rw[e1,e2,e3]
 rw[e];omega
structure AcOk (p:PlanP) (s:List (Int×Int)) (prn:Int):Prop where
 err:p.err=0
 ok:PlanOk p
 p64:p.ok64
 hin:prn∈p.prns
 len:s.length<=1048576
 sm:∀x∈s,inS 127 x
theorem AcOk.bank(A:AcOk p s prn)(h: -2000000<=a/\a<=2000000):bankErr s p.d p.o prn a=0:=by
 have se:jaA p.d p.o [prn]=0:=A.ok.samp (fun x hx=>by rw[List.mem_singleton]at hx;rw[hx];exact A.hin);have:=A.len;unfold bankErr;rw[if_neg (by omega),if_neg (by simpa using A.sm),if_neg (by rw[se];decide),if_neg (by omega)]
theorem AcOk.win(A:AcOk p s prn)(a:Int):inS 1039368 (sumP s (sampL p.d prn p.o.toNat) a):=by
 have sz:=jal A.ok.nums;have sl1:((sampL p.d prn p.o.toNat).length:Int)=p.size:=by rw[jaF,sz.2.2]
 have q:=jmR (a:=a) A.sm (jaZ p.d prn p.o.toNat) (sampL p.d prn p.o.toNat).length;exact jhs q (by omega)
theorem AcOk.pw{p:PlanP}{s:List (Int×Int)}{prn:Int}(A:AcOk p s prn)(a w:Int):∀k:Nat,0<=pwK s (sampL p.d prn p.o.toNat) a w k/\pwK s (sampL p.d prn p.o.toNat) a w k<=2200000000000*k
 |0=>by simp[pwK]
 |k+1=>by
  have ih:=A.pw a w k;have q:=(jix (A.win (a+(k:Nat)*w))).2;unfold pwK wpI;omega
def askA(p:PlanP)(vp:AV)(b s:Int):AV:=.agg [.int .i64 p.d,.int .i64 p.o,.int .i64 p.pb,.int .i64 p.w,.int .i64 p.mn,.int .i64 p.mx,.int .i64 p.nz,vp,.int .i64 b,.int .i64 s]
def humI(p:PlanP)(s:Int):Int:=(3*p.size*(p.nz+coarI s)+1)/2
def SumV(h:Heap)(v:AV)(p:PlanP)(s:Int):Prop:=∃j,v=.agg [.map j,.int .i64 p.size,.int .i64 (humI p s)]/\h.get j=some (.map (ents (sumI p.d p.o) (grid p.prns p.prns)))
theorem SumV.mono{s:Int}(H:SumV h v p s)(hs:HSub h h'):SumV h' v p s:=by
 obtain⟨j,e,g⟩:=H;exact⟨j,e,(hs.get j (kab g)).trans g⟩
theorem LLI.atC{ll:List (List Int)}(H:LLI h v ll)(hi:i<ll.length):∃w,idxA 1 v (.int .i64 (i:Nat))=some (elA 1 v i)/\(∀h',HSub h h'->Ae.loadA h' false 1 (elA 1 v i)=some w)/\RI h w (ll.getD i []):=by
 obtain⟨vs,a,b,c⟩:=H;refine⟨vs.getD i .nilslice,a.idx ⟨by omega,by omega⟩,fun h' hs=>?_,c i hi⟩;rw[kbr (a.mono hs) hi];simp[show i<vs.length by omega]
theorem jgP{s:Int}(h:0<=s/\s<=30):0<=coarI s/\coarI s<=536870912:=by
 have:=jcP h;unfold coarI;generalize (2:Int)^s.toNat=q at*;omega
theorem jiy{s:Int}(ok:PlanOk p)(h:0<=s/\s<=30):0<=3*p.size*(p.nz+coarI s)/\3*p.size*(p.nz+coarI s)<=13183710000000/\0<=3*p.size/\3*p.size<=24552:=by
 have a:31<=p.size/\p.size<=8184:=⟨(jal ok.nums).1,(jal ok.nums).2.1⟩;have b:=jgP h;have n:=ok.nums.2.2.2.2.2.2;have q1:0<=p.nz+coarI s:=by omega
 have q2:p.nz+coarI s<=536970912:=by omega
 have m1:=Int.mul_nonneg (show 0<=3*p.size by omega) q1;have m2:=Int.mul_le_mul (show 3*p.size<=24552 by omega) q2 q1 (by decide);refine⟨m1,Int.le_trans m2 (by decide),by omega,by omega⟩
theorem jkE(hC:Has C TA){p:PlanP}{vp:AV}{b s:Int}{h:Heap}(ok:PlanOk p)(hg:gErr b s=0)(h64:p.ok64)(R:RI h vp p.prns):
  ACalls C 340 [askA p vp b s] h (fun r h'=>SumV h' r p s/\HSub h h'):=by
 have v1:=R.one;have g:=jcs hg;have L:=fun h=>jbh hC (h:=h) h64.1;have el:lenE p.d=tup2 (lenN p.d) 0:=by unfold lenE;rw[if_pos ok.nums.1]
 simp only[el]at L;have kt:=fun h1 (R1:RI h1 vp p.prns)=>jpf hC (h:=h1) h64.1 h64.2.1 R1 h64.2.2.2.2.2.2.2;rw[ok.tab]at kt;simp only[if_true]at kt;have kc:=fun h1=>jlU (b:=b) (s:=s) (h:=h1) hC;unfold coarE at kc;rw[if_pos hg]at kc;have sz:=jal ok.nums;have hu:=jiy ok g.2.2;have cr:=jgP g.2.2;have tv:=fun(i k:Nat) (hi:i<p.prns.length) (hk:k<p.prns.length)=>ok.tbl hi hk;have tl:(tblL p.d p.o.toNat p.prns).length=p.prns.length:=by simp[tblL]
 have tr:∀i,i<p.prns.length->((tblL p.d p.o.toNat p.prns).getD i []).length=p.prns.length:=by
  intro i hi;simp[tblL,List.getD_eq_getElem?_getD,hi,tabRow_length]
 have new:=fun(i k:Nat) (hi:i<p.prns.length) (hk:k<p.prns.length)=>jpk ok.nodup hi hk;have kend:=jpj p.prns;have kstep:=fun(i k:Nat) (hk:k<p.prns.length)=>jnj (ps:=p.prns) (i:=i) hk;have krow:=fun(i:Nat) (hi:i<p.prns.length)=>jpi (ps:=p.prns) hi;have l8:=ok.len;have ez:(lenN p.d:Int)*p.o=p.size:=rfl;have nzr:=ok.nums.2.2.2.2.2.2;have np:=ok.nums.2.1;have xl:∃N:Int,N=(lenN p.d:Int):=⟨_,rfl⟩;obtain⟨N,hN⟩:=xl;have hN1:=jbk ok.nums.1;have hNr:31<=N/\N<=1023:=by omega
 rw[<-hN]at L ez;unfold SumV humI askA;generalize hf:sumI p.d p.o=f at*;generalize tblL p.d p.o.toNat p.prns=TT at*;generalize p.size=S at*;generalize coarI s=cs at*;obtain⟨d,o,pb,w,mn,mx,nz,prns⟩:=p;dsimp only at*;refine zf 340 B340 hC ?_;simp only[B340,zB];refine zs ?_;refine kaa (L _) (zs1 @tup2.eq_1 ?_);refine kad (kt _ (R.mono zr)) ?_;rintro r h2 ⟨v,rfl,sA,TL⟩;have R2:=R.mono ((show HSub h ((h.push (.cells [.int .i64 d,.int .i64 o,.int .i64 pb,.int .i64 w,.int .i64 mn,.int .i64 mx,.int .i64 nz,vp,.int .i64 b,.int .i64 s] true 0)).push (.cells [.nilmap,.int .i64 0,.int .i64 0] true 0))from zr).trans sA)
 have z2:=sA.size;simp only[Heap.size_push]at z2;have gP:h2.get h.size=some (.cells [.int .i64 d,.int .i64 o,.int .i64 pb,.int .i64 w,.int .i64 mn,.int .i64 mx,.int .i64 nz,vp,.int .i64 b,.int .i64 s] true 0):=(sA.get _ (by simp only[Heap.size_push];omega)).trans (by exact ze);have gT:h2.get (h.size+1)=some (.cells [.nilmap,.int .i64 0,.int .i64 0] true 0):=(sA.get _ (by simp only[Heap.size_push];omega)).trans (by exact ze);have hs2:HSub h h2:=(show HSub h _ from zr).trans sA;clear sA kt;unfold gA at kc;refine zs3 @jai.eq_1 gP @wpMap ?_;refine kaa (kc _) ?_
 have o1:(AV.map h2.size).one=true:=rfl;have o0:AV.nilmap.one=true:=rfl;refine zs6 @tup2.eq_1 gP gT @wpMap ez @TL.len ?_;refine jae (fun j t h'=>∃i:Nat,HSub h2 h'/\h'.get h2.size=some (.map (ents f (jdO prns i 0)))/\h'.get (h2.size+1)=some (.cells [.map h2.size,.int .i64 S,.int .i64 0] true 0)/\
  t 1=.ptr h.size 0/\t 2=.ptr (h.size+1) 0/\t 7=.int .i64 cs/\t 9=.ptr (h2.size+1) 0/\t 47=v/\t 48=.int .i64 (TT.length:Nat)/\t 49=.int .i64 (i:Nat)/\i<=prns.length/\j=prns.length-i) (j0:=prns.length)
  ⟨0,zr,by refine zs ?_;simp[jdO,grid,ents],by exact ze,rfl,rfl,rfl,rfl,rfl,rfl,rfl,by omega,rfl⟩ ?_
 rintro j t h3 ⟨i,s3,gM,gC,e1,e2,e7,e9,e47,e48,e49,hi,hj⟩;refine zs2 e48 e49 ?_;refine kaf (fun c1=>?_) (fun c1=>?_)
 ·have hi':i<prns.length:=by omega
  have xr:=TL.atC (i:=i) (by omega);obtain⟨w,ix,ld,Rw⟩:=xr;have ld:=ld _ s3;have lenw:=Rw.len;have lw:=tr i hi';rw[lw]at lenw;refine zs7 e1 e2 e7 e9 e47 e48 (zI e49 (zI ix (zI ld lenw))) ?_;refine jae (fun j t h'=>∃k:Nat,HSub h2 h'/\h'.get h2.size=some (.map (ents f (jdO prns i k)))/\h'.get (h2.size+1)=some (.cells [.map h2.size,.int .i64 S,.int .i64 0] true 0)/\
   t 1=.ptr h.size 0/\t 2=.ptr (h.size+1) 0/\t 7=.int .i64 cs/\t 9=.ptr (h2.size+1) 0/\t 10=.int .i64 (i:Nat)/\t 47=v/\t 48=.int .i64 (TT.length:Nat)/\t 49=.int .i64 (i:Nat)/\t 54=w/\t 55=.int .i64 (prns.length:Nat)/\t 56=.int .i64 (k:Nat)/\k<=prns.length/\j=prns.length-k) (j0:=prns.length)
   ⟨0,s3,gM,gC,e1,e2,e7,e9,rfl,e47,e48,e49,rfl,rfl,rfl,by omega,rfl⟩ ?_
  clear ix ld gM gC e1 e2 e7 e9 e47 e48 e49;rintro j t h4 ⟨k,s4,gM,gC,e1,e2,e7,e9,e10,e47,e48,e49,e54,e55,e56,hk,hj⟩;refine zs2 e55 e56 ?_;refine kaf (fun c2=>?_) (fun c2=>?_)
  ·have hk':k<prns.length:=by omega
   have Rw4:=Rw.mono s4;have Rp4:=R2.mono s4;have gP4:=(s4.get _ (by omega)).trans gP;have lk:=Rw4.load (k:=k) (by omega);rw[tv i k hi' hk']at lk;have li:=Rp4.load hi';have lj:=Rp4.load hk';have up:=fun H=>jt4 (f:=f) (h:=H) (i:=h2.size) (new i k hi' hk');rw[<-kstep i k hk']at up;simp only[keyP,ksP]at up;have one:=Rw.one;refine zs7 e1 e2 e7 e9 e10 e47 (zI e48 (zI e49 (zI e54 (zI e55 (zI e56 (zI @Rw4.idx (zI @Rp4.idx (zI lk (zI li (zI lj (zI gP4 (zI gC (zI gM (zI @wpMap up)))))))))))))) ?_
   have z4:=kab gM;exact⟨_,⟨k+1,HSub.put s4 (Nat.le_refl _) _,get_put_eq rfl z4,by omega,by omega,rfl⟩,by omega⟩
  ·obtain rfl:k=prns.length:=by omega
   refine zs7 e1 e2 e7 e9 e47 e48 e49 ?_;rw[krow i hi']at gM;exact⟨_,⟨i+1,s4,gM,gC,by omega,by omega,rfl⟩,by omega⟩
 ·obtain rfl:i=prns.length:=by omega
  rw[kend]at gM;have gT3:=(s3.get _ (by omega)).trans gT;have gP3:=(s3.get _ (by omega)).trans gP;have z3:=kab gC;refine zs7 e1 e2 e7 e9 e47 e48 (zI e49 (zI gC (zI gP3 (zI gT3 (zI o1 o0))))) ?_;exact⟨⟨h2.size,rfl,by rw[get_put_ne (by omega),get_put_ne (by omega)];exact gM⟩,HSub.put (HSub.put (hs2.trans s3) (by omega) _) (by omega) _⟩
def othK(f:Int->Int->Int)(prn:Int)(ps:List Int):Nat->Int
 |0=>0
 |k+1=>othK f prn ps k+if ps.getD k 0=prn then 0 else f prn (ps.getD k 0)
theorem jeZ{f:Int->Int->Int}(fr:∀a b,0<=f a b/\f a b<=8184){prn:Int}{ps:List Int}:∀k:Nat,0<=othK f prn ps k/\othK f prn ps k<=8184*k
 |0=>by simp[othK]
 |k+1=>by
  have h:=jeZ fr (prn:=prn) (ps:=ps) k;have q:=fr prn (ps.getD k 0);unfold othK;split<;>omega
def PlanP.oth(p:PlanP)(prn:Int):Int:=othK (sumI p.d p.o) prn p.prns p.prns.length
def boundI(p:PlanP)(s prn:Int):Int:=128*p.mx*(sumI p.d p.o prn prn+p.oth prn)+humI p s
def thrI(p:PlanP)(s prn:Int):Int:=(boundI p s prn+2^s.toNat-1)/2^s.toNat
def floorI(p:PlanP)(s prn:Int):Int:=126*p.mn*(p.size-2)-128*p.mx*p.oth prn-humI p s
theorem jbB(hn:p.numsOk)(a b:Int):0<=sumI p.d p.o a b/\sumI p.d p.o a b<=8184:=by
 have h:=jku (jaZ p.d a p.o.toNat) (jaZ p.d b p.o.toNat) (if a=b then p.o.toNat else 0) 3 (Nat.le_refl _);rw[jo7,jaF]at h;have sz:=jal hn;unfold sumI;omega
theorem jgb(ok:PlanOk p)(prn:Int):0<=p.oth prn/\p.oth prn<=65472:=by
 have h:=jeZ (f:=sumI p.d p.o) (fun a b=>jbB ok.nums a b) (prn:=prn) (ps:=p.prns) p.prns.length;have:=ok.len;unfold PlanP.oth;omega
theorem jjC{s:Int}(ok:PlanOk p)(h:0<=s/\s<=30):0<=humI p s/\humI p s<=6591855000000:=by
 have:=jiy ok h;unfold humI;generalize 3*p.size*(p.nz+coarI s)=q at*;omega
theorem jhx(ok:PlanOk p){x:Int}(h:0<=x/\x<=73656):0<=128*p.mx*x/\128*p.mx*x<=9427968000:=by
 have n:=ok.nums.2.2.2.2;have q1:0<=128*p.mx:=by omega
 have m1:=Int.mul_nonneg q1 h.1;have m2:=Int.mul_le_mul (show 128*p.mx<=128000 by omega) h.2 h.1 (by decide);exact⟨m1,Int.le_trans m2 (by decide)⟩
theorem jsz(ok:PlanOk p):0<=126*p.mn*(p.size-2)/\126*p.mn*(p.size-2)<=1030932000:=by
 have n:=ok.nums.2.2.2.2;have sz:=jal ok.nums;have q1:0<=126*p.mn:=by omega
 have q2:0<=p.size-2:=by omega
 have m1:=Int.mul_nonneg q1 q2;have m2:=Int.mul_le_mul (show 126*p.mn<=126000 by omega) (show p.size-2<=8182 by omega) q2 (by decide);exact⟨m1,Int.le_trans m2 (by decide)⟩
theorem jct{s:Int}(ok:PlanOk p)(h:0<=s/\s<=30)(prn:Int):0<=boundI p s prn/\boundI p s prn<=6601282968000:=by
 have a:=jbB ok.nums prn prn;have b:=jgb ok prn;have c:=jjC ok h;have d:=jhx ok (x:=sumI p.d p.o prn prn+p.oth prn) (by omega);unfold boundI;omega
theorem jlX{s:Int}(ok:PlanOk p)(h:0<=s/\s<=30)(prn:Int):0<=thrI p s prn/\thrI p s prn<=6602356709823:=by
 have b:=jct ok h prn;have q:=jcP h;unfold thrI;generalize (2:Int)^s.toNat=P at*;generalize boundI p s prn=B at*;constructor
 ·exact Int.ediv_nonneg (by omega) (by omega)
 ·have:=Int.ediv_le_self P (show 0<=B+P-1 by omega);omega
theorem jkF(hC:Has C TA){f:Int->Int->Int}{K:List (Int×Int)}{n q prn S H:Int}{i5 i3 j u5 u3:Nat}{h:Heap}(fr:∀a b,0<=f a b/\f a b<=8184)(hn:0<=n/\n<=1000000)
  (g5:h.get i5=some (.cells [.int .i64 prn] true u5)) (g3:h.get i3=some (.cells [.map j,.int .i64 S,.int .i64 H] true u3)) (gm:h.get j=some (.map (ents f K))) (hin:(prn,q)∈K):
  ACalls C 356 [.int .i64 n,.int .i64 q,.ptr i5 0,.ptr i3 0] h (fun r h'=>r=.int .i64 (n+if q=prn then 0 else f prn q)/\h'=h):=by
 have lk:=jqV (f:=f) (z:=.int .i64 0) hin;simp only[keyP,ksP]at lk;have fq:=fr prn q;by_cases c:q=prn
 ·rw[if_pos c];refine zf 356 B356 hC ?_;simp only[B356,zB];refine zs2 g5 c ?_;omega
 ·rw[if_neg c];refine zf 356 B356 hC ?_;simp only[B356,zB];exact ze6 g5 g3 gm c @wpMap lk
theorem jlY(hC:Has C TA){f:Int->Int->Int}{K:List (Int×Int)}{prn S H:Int}{i5 i3 j u5 u3:Nat}{v:AV}{l:List Int}{h:Heap}(fr:∀a b,0<=f a b/\f a b<=8184)(R:RI h v l)(l8:l.length<=8)
  (g5:h.get i5=some (.cells [.int .i64 prn] true u5)) (g3:h.get i3=some (.cells [.map j,.int .i64 S,.int .i64 H] true u3)) (gm:h.get j=some (.map (ents f K))) (hin:∀q∈l,(prn,q)∈K):
  ACalls C 355 [v,.int .i64 0,.func 356 [] [.ptr i5 0,.ptr i3 0]] h (fun r h'=>r=.int .i64 (othK f prn l l.length)/\h'=h):=by
 have rg:=fun k=>jeZ fr (prn:=prn) (ps:=l) k;have st:=fun(k:Nat) (hk:k<l.length)=>jkF hC (n:=othK f prn l k) (q:=l.getD k 0) fr (by have:=rg k;omega) g5 g3 gm (hin _ (jam hk));have hC:=hC.sub (T':=TA) (by decide);refine zf 355 B355 hC ?_;simp only[B355,zB];refine zs1 @R.len ?_;refine jae (fun j t h'=>h'=h/\∃k:Nat,t 1=.int .i64 (othK f prn l k)/\t 2=.func 356 [] [.ptr i5 0,.ptr i3 0]/\t 9=v/\t 10=.int .i64 (l.length:Nat)/\t 11=.int .i64 (k:Nat)/\k<=l.length/\j=l.length-k) (j0:=l.length)
  ⟨rfl,0,rfl,rfl,rfl,rfl,rfl,by omega,rfl⟩ ?_
 rintro j t h' ⟨rfl,k,e1,e2,e9,e10,e11,hk,hj⟩;refine zs2 e10 e11 ?_;refine kaf (fun c=>?_) (fun c=>?_)
 ·have hk':k<l.length:=by omega
  refine zs7 e1 e2 e9 e10 e11 @R.idx (R.load hk') ?_;refine kaa (st k hk') (zs5 e1 e2 e9 e10 e11 ?_);exact⟨_,⟨k+1,rfl,by omega,by omega,rfl⟩,by omega⟩
 ·obtain rfl:k=l.length:=by omega
  exact ze1 e1
theorem jja(hC:Has C TA){p:PlanP}{vp sv:AV}{b s prn:Int}{h:Heap}(ok:PlanOk p)(R:RI h vp p.prns)(V:SumV h sv p s)(hin:prn∈p.prns):
  ACalls C 347 [sv,askA p vp b s,.int .i64 prn] h (fun r h'=>r=.int .i64 (p.oth prn)/\h'=h):=by
 refine kae (P:=fun r h'=>r=.int .i64 (p.oth prn)/\HSub h h') ?_ (fun r h' hp=>⟨by rw[hp.1];trivial,hp.2,hp.1,rfl⟩);have v1:=R.one;obtain⟨j,rfl,gm⟩:=V;have jl:=kab gm;have ff:=fun(H:Heap) (i5 i3 u5 u3:Nat) (R1:RI H vp p.prns) g5 g3 gm1=>jlY hC (h:=H) (prn:=prn) (S:=p.size) (H:=humI p s) (i5:=i5) (i3:=i3) (u5:=u5) (u3:=u3) (j:=j) (fun a b=>jbB ok.nums a b) R1 ok.len.2 g5 g3 gm1 (fun q hq=>jf9.2 ⟨hin,hq⟩);unfold PlanP.oth askA;generalize sumI p.d p.o=f at*;generalize p.size=S at*;generalize humI p s=HM at*;have o1:(AV.map j).one=true:=rfl
 refine zf 347 B347 hC ?_;simp only[B347,zB];refine zs1 @wpMap ?_;refine kaa (ff _ _ _ 0 0 (R.mono zr) (by exact ze) (by exact ze) (by refine zs ?_;exact gm)) ?_;refine zs ?_;exact zr
theorem jkG(hC:Has C TA){p:PlanP}{vp sv:AV}{b s prn:Int}{h:Heap}(ok:PlanOk p)(hs:0<=s/\s<=30)(R:RI h vp p.prns)(V:SumV h sv p s)(hin:prn∈p.prns):
  ACalls C 334 [sv,askA p vp b s,.int .i64 prn] h (fun r h'=>r=.int .i64 (boundI p s prn)/\h'=h):=by
 refine kae (P:=fun r h'=>r=.int .i64 (boundI p s prn)/\HSub h h') ?_ (fun r h' hp=>⟨by rw[hp.1];trivial,hp.2,hp.1,rfl⟩);have v1:=R.one;have lk:=fun(H:Heap)=>jja (b:=b) hC (h:=H) (sv:=sv) (vp:=vp) (prn:=prn) (s:=s) ok;have bd:=jct ok hs prn;have m1:=jbB ok.nums prn prn;have m2:=jgb ok prn;have m3:=jhx ok (x:=sumI p.d p.o prn prn+p.oth prn) (by omega);have m4:=ok.nums.2.2.2.2;have V0:=V;obtain⟨j,rfl,gm⟩:=V;have jl:=kab gm;have kin:=jqV (f:=sumI p.d p.o) (z:=.int .i64 0) (jf9.2 ⟨hin,hin⟩);simp only[keyP,ksP]at kin;have o1:(AV.map j).one=true:=rfl
 unfold boundI askA at*;generalize p.oth prn=O at*;generalize sumI p.d p.o=f at*;generalize p.size=S at*;generalize humI p s=HM at*;obtain⟨d,o,pb,w,mn,mx,nz,prns⟩:=p;dsimp only at*;refine zf 334 B334 hC ?_;simp only[B334,zB];refine zs3 @wpMap gm kin ?_;refine kaa (lk _ (R.mono zr) (V0.mono zr) hin) (zs1 @wpMap ?_);exact zr
theorem jnk(hC:Has C TA){p:PlanP}{vp sv:AV}{b s prn:Int}{h:Heap}(ok:PlanOk p)(hs:0<=s/\s<=30)(R:RI h vp p.prns)(V:SumV h sv p s)(hin:prn∈p.prns):
  ACalls C 332 [sv,askA p vp b s,.int .i64 prn] h (fun r h'=>r=.int .i64 (thrI p s prn)/\h'=h):=by
 refine kae (P:=fun r h'=>r=.int .i64 (thrI p s prn)/\HSub h h') ?_ (fun r h' hp=>⟨by rw[hp.1];trivial,hp.2,hp.1,rfl⟩);have v1:=R.one;have lk:=fun(H:Heap)=>jkG (b:=b) hC (h:=H) (sv:=sv) (vp:=vp) (prn:=prn) ok hs;have bd:=jct ok hs prn;have p30:=jcP hs;have V0:=V;obtain⟨j,rfl,gm⟩:=V;have o1:(AV.map j).one=true:=rfl;have fd:=Int.fdiv_eq_ediv_of_nonneg (boundI p s prn+2^s.toNat-1) (show 0<=(2:Int)^s.toNat by omega);unfold thrI askA at*;generalize boundI p s prn=B at*;generalize p.size=S at*;generalize humI p s=HM at*;generalize hP:(2:Int)^s.toNat=P at*
 obtain⟨d,o,pb,w,mn,mx,nz,prns⟩:=p;dsimp only at*;refine zf 332 B332 hC ?_;simp only[B332,zB];refine zs4 @wpMap gm @hP @Int.one_mul ?_;refine kaa (lk _ (R.mono zr) (V0.mono zr) hin) (zs4 @wpMap @hP fd @Int.one_mul ?_);exact zr
theorem juA(x:Int):IntKind.u64.wrap x=x% 18446744073709551616:=by
 unfold IntKind.wrap;rfl
theorem juB{a b:Int}(ha:0<=a/\a<18446744073709551616)(hb:0<=b/\b<18446744073709551616):
  0<=a% 4294967296*(b% 4294967296)/\a% 4294967296*(b% 4294967296)<=18446744065119617025/\0<=a/4294967296*(b% 4294967296)/\a/4294967296*(b% 4294967296)<=18446744065119617025/\
  0<=a% 4294967296*(b/4294967296)/\a% 4294967296*(b/4294967296)<=18446744065119617025/\0<=a/4294967296*(b/4294967296)/\a/4294967296*(b/4294967296)<=18446744065119617025/\
  a*b=a/4294967296*(b/4294967296)*18446744073709551616+(a/4294967296*(b% 4294967296)+a% 4294967296*(b/4294967296))*4294967296+a% 4294967296*(b% 4294967296):=by
 have ea:a=a/4294967296*4294967296+a% 4294967296:=by omega
 have eb:b=b/4294967296*4294967296+b% 4294967296:=by omega
 have a1:0<=a/4294967296/\a/4294967296<=4294967295:=by omega
 have a0:0<=a% 4294967296/\a% 4294967296<=4294967295:=by omega
 have b1:0<=b/4294967296/\b/4294967296<=4294967295:=by omega
 have b0:0<=b% 4294967296/\b% 4294967296<=4294967295:=by omega
 generalize a/4294967296=x1 at*;generalize a% 4294967296=x0 at*;generalize b/4294967296=y1 at*;generalize b% 4294967296=y0 at*;have pr:∀{x y:Int},0<=x/\x<=4294967295->0<=y/\y<=4294967295->0<=x*y/\x*y<=18446744065119617025:=fun hx hy=>
  ⟨Int.mul_nonneg hx.1 hy.1,Int.le_trans (Int.mul_le_mul hx.2 hy.2 hy.1 (by decide)) (by decide)⟩
 have p1:=pr a0 b0;have p2:=pr a1 b0;have p3:=pr a0 b1;have p4:=pr a1 b1;refine⟨p1.1,p1.2,p2.1,p2.2,p3.1,p3.2,p4.1,p4.2,?_⟩;rw[ea,eb]
 grind
def askErr(p:PlanP)(b s:Int):Int:=if p.err=0 then gErr b s else p.err
def detErr(p:PlanP)(b s prn:Int):Int:=if askErr p b s=0 then if prn∈p.prns then 0 else 18 else askErr p b s
theorem jdQ{s:Int}(h:askErr p b s=0):PlanOk p/\gErr b s=0:=by
 unfold askErr at h;split at h
 ·rename_i c;exact⟨jdP c,h⟩
 ·contradiction
theorem jeH{s:Int}(h:detErr p b s prn=0):askErr p b s=0/\prn∈p.prns:=by
 unfold detErr at h;split at h
 ·rename_i c;split at h
  ·rename_i c2;exact⟨c,c2⟩
  ·cases h
 ·contradiction
theorem jjD(hC:Has C TA){a b:Int}{h:Heap}(ha:0<=a/\a<18446744073709551616)(hb:0<=b/\b<18446744073709551616):
  ACalls C 105 [.int .u64 a,.int .u64 b] h (fun r h'=>r=.tuple [.int .u64 (a*b/18446744073709551616),.int .u64 (a*b% 18446744073709551616)]/\h'=h):=by
 obtain⟨p1,p2,p3,p4,p5,p6,p7,p8,e⟩:=juB ha hb;have hi:a*b/18446744073709551616=a/4294967296*(b/4294967296)+(a/4294967296*(b% 4294967296)+a% 4294967296*(b% 4294967296)/4294967296)/4294967296+
   ((a/4294967296*(b% 4294967296)+a% 4294967296*(b% 4294967296)/4294967296)% 4294967296+a% 4294967296*(b/4294967296))/4294967296:=by
  rw[e];generalize a% 4294967296*(b% 4294967296)=P0 at*;generalize a/4294967296*(b% 4294967296)=P1 at*;generalize a% 4294967296*(b/4294967296)=P2 at*;generalize a/4294967296*(b/4294967296)=P3 at*;omega
 have hr:0<=a*b/18446744073709551616/\a*b/18446744073709551616<=18446744073709551615:=by
  rw[e];generalize a% 4294967296*(b% 4294967296)=P0 at*;generalize a/4294967296*(b% 4294967296)=P1 at*;generalize a% 4294967296*(b/4294967296)=P2 at*;generalize a/4294967296*(b/4294967296)=P3 at*;omega
 rw[hi]at hr;rw[hi];have wl:=juA (a*b);refine zf 105 B105 hC ?_;simp only[B105,zB];exact ze2 @jn0 wl
theorem jlZ(hC:Has C TA){s:Int}(R:RI h vp p.prns)(h64:p.ok64):ACalls C 349 [askA p vp b s] h (fun r h'=>r=.int .i64 p.err/\h'=h):=by
 refine kae (P:=fun r h'=>r=.int .i64 p.err/\HSub h h') ?_ (fun r h' hp=>⟨by rw[hp.1];trivial,hp.2,hp.1,rfl⟩);have v1:=R.one;have kp:=fun H (R1:RI H vp p.prns)=>jbH hC (h:=H) (p:=p) ⟨vp,rfl,R1⟩ h64;unfold askA;refine zf 349 B349 hC ?_;simp only[B349,zB];refine zs ?_;refine kaa (kp _ (R.mono zr)) (zs ?_);exact zr
theorem jl0(hC:Has C TA){s:Int}(v1:vp.one=true):ACalls C 350 [askA p vp b s] h (fun r h'=>r=.int .i64 (gErr b s)/\h'=h):=by
 refine kae (P:=fun r h'=>r=.int .i64 (gErr b s)/\HSub h h') ?_ (fun r h' hp=>⟨by rw[hp.1];trivial,hp.2,hp.1,rfl⟩);have kp:=fun H=>jdd hC (h:=H) (b:=b) (s:=s);unfold askA;unfold gA at kp;refine zf 350 B350 hC ?_;simp only[B350,zB];refine zs ?_;refine kaa (kp _) (zs ?_);exact zr
theorem jkH(hC:Has C TA){s:Int}(R:RI h vp p.prns)(h64:p.ok64):ACalls C 339 [askA p vp b s] h (fun r h'=>r=.int .i64 (askErr p b s)/\h'=h):=by
 refine kae (P:=fun r h'=>r=.int .i64 (askErr p b s)/\HSub h h') ?_ (fun r h' hp=>⟨by rw[hp.1];trivial,hp.2,hp.1,rfl⟩);have v1:=R.one;have k1:=fun H (R1:RI H vp p.prns)=>jlZ (b:=b) (s:=s) hC (h:=H) R1 h64;have k2:=fun H=>jl0 (p:=p) (vp:=vp) (b:=b) (s:=s) hC (h:=H) v1;have e0:p.err=0->askErr p b s=gErr b s:=fun e=>by unfold askErr;rw[if_pos e]
 have e1:p.err≠0->askErr p b s=p.err:=fun e=>by unfold askErr;rw[if_neg e]
 generalize askErr p b s=E at*;generalize p.err=PE at*;have xA:∃A,A=askA p vp b s:=⟨_,rfl⟩;obtain⟨A,hA⟩:=xA;rw[<-hA]at k1 k2|-;refine zf 339 B339 hC ?_;simp only[B339,zB];refine zs2 hA @askA.eq_1 ?_;refine jae (fun j t h'=>HSub h h'/\∃k:Nat,t 10=.agg [.func 349 [A] [],.func 350 [A] []]/\t 11=.int .i64 (k:Nat)/\k<=2/\(0<k->PE=0)/\(1<k->gErr b s=0)/\j=2-k) (j0:=2)
  ⟨zr,0,by rw[hA];rfl,rfl,by omega,by omega,by omega,rfl⟩ ?_
 rintro j t h' ⟨sH,k,e10,e11,hk,q1,q2,hj⟩;rcases(show k=0\/k=1\/k=2 by omega)with rfl|rfl|rfl
 ·refine zs3 e10 e11 @ja6 ?_;refine kaa (k1 _ (R.mono sH)) ?_;by_cases c:PE=0
  ·refine zs3 c e10 e11 ?_;exact⟨1,⟨sH,1,by omega,by omega,by omega,rfl⟩,by omega⟩
  ·refine zs3 c e10 e11 ?_;exact⟨by rw[e1 c],sH⟩
 ·refine zs3 e10 e11 @ja6 ?_;refine kaa (k2 _) ?_;rcases jgN b s with c|c
  ·refine zs3 c e10 e11 ?_;have q:=q1 (by omega);exact⟨0,⟨sH,2,by omega,by omega,by omega,rfl⟩,by omega⟩
  ·refine zs3 c e10 e11 ?_;exact⟨by rw[e0 (q1 (by omega)),c],sH⟩
 ·refine zs2 e10 e11 ?_;exact⟨by rw[e0 (q1 (by omega)),q2 (by omega)],sH⟩
theorem jkI(hC:Has C TA){p:PlanP}{vp:AV}{b s prn:Int}{h:Heap}(R:RI h vp p.prns)(h64:p.ok64):
  ACalls C 331 [plA p vp,gA b s,.int .i64 prn] h (fun r h'=>HSub h h'/\∃sv,r=.tuple [askA p vp b s,sv,.int .i64 (detErr p b s prn)]/\(∃a1 a2 a3,sv=.agg [a1,a2,a3]/\[a1,a2,a3].all AV.one=true)/\(detErr p b s prn=0->SumV h' sv p s)):=by
 have v1:=R.one;have kc:=fun H (R1:RI H vp p.prns)=>jkH (b:=b) (s:=s) hC (h:=H) R1 h64;have kn:=fun(ok:PlanOk p) (hg:gErr b s=0) H (R1:RI H vp p.prns)=>jkE hC (h:=H) ok hg h64 R1;have e0:askErr p b s≠0->detErr p b s prn=askErr p b s:=fun e=>by unfold detErr;rw[if_neg e]
 have e1:askErr p b s=0->detErr p b s prn=if prn∈p.prns then 0 else 18:=fun e=>by unfold detErr;rw[if_pos e]
 have o0:AV.nilmap.one=true:=rfl;generalize detErr p b s prn=E at*;unfold askA at kc kn;unfold plA gA askA;by_cases c:askErr p b s=0
 ·obtain⟨ok,hg⟩:=jdQ c;rw[c]at kc;have e1:=e1 c;clear e0;obtain⟨d,o,pb,w,mn,mx,nz,prns⟩:=p;dsimp only at*;refine zf 331 B331 hC ?_;simp only[B331,zB];refine zs2 o0 @wpMap ?_;refine kaa (kc _ (R.mono zr)) (zs1 @wpMap ?_);refine kad (kn ok hg _ (R.mono zr)) ?_;rintro r h2 ⟨V,sA⟩;obtain⟨j,rfl,gm⟩:=V;have o1:(AV.map j).one=true:=rfl;have z2:=sA.size;simp only[Heap.size_push]at z2;have jl:=kab gm;have g9:h2.get (h.size+4)=some (.cells [.int .i64 d,.int .i64 o,.int .i64 pb,.int .i64 w,.int .i64 mn,.int .i64 mx,.int .i64 nz,vp,.int .i64 b,.int .i64 s] true 0):=(sA.get _ (by simp only[Heap.size_push];omega)).trans (by exact ze)
  have g6:h2.get (h.size+2)=some (.cells [.int .i64 0,.int .i64 0,.int .i64 0,.int .i64 0,.int .i64 0,.int .i64 0,.int .i64 0,.nilslice,.int .i64 0,.int .i64 0] true 0):=(sA.get _ (by simp only[Heap.size_push];omega)).trans (by exact ze);have g7:h2.get (h.size+3)=some (.cells [.nilmap,.int .i64 0,.int .i64 0] true 0):=(sA.get _ (by simp only[Heap.size_push];omega)).trans (by exact ze);have hs2:HSub h h2:=(show HSub h _ from zr).trans sA;clear sA kn;by_cases ci:prn∈prns
  ·have lk:=jsy (f:=sumI d o) (z:=.int .i64 0) (jf9.2 ⟨ci,ci⟩);simp only[keyP,ksP]at lk;rw[if_pos ci]at e1;subst e1;have n6:j≠h.size+2:=by rintro rfl;rw[g6]at gm;cases gm
   have n7:j≠h.size+3:=by rintro rfl;rw[g7]at gm;cases gm
   refine zs6 @wpMap gm lk g9 g6 g7 ?_;exact⟨(zh hs2),_,rfl,⟨_,_,_,rfl,rfl⟩,fun _=>⟨j,rfl,by rw[get_push_lt (by simp only[Heap.size_put];omega),get_put_ne (by omega),get_put_ne (by omega)];exact gm⟩⟩
  ·have lk:=jqW (f:=sumI d o) (x:=prn) (y:=prn) (K:=grid prns prns) (z:=.int .i64 0) (fun q=>ci (jf9.1 q).1);simp only[keyP,ksP]at lk;rw[if_neg ci]at e1;subst e1;refine zs6 @wpMap gm lk g9 g6 g7 ?_;exact⟨(zh hs2),_,rfl,_,_,_,rfl,rfl⟩
 ·rw[e0 c];have e2:askErr p b s=0->False:=c;generalize askErr p b s=AE at*;obtain⟨d,o,pb,w,mn,mx,nz,prns⟩:=p;dsimp only at*;refine zf 331 B331 hC ?_;simp only[B331,zB];refine zs2 o0 @wpMap ?_;refine kaa (kc _ (R.mono zr)) (zs2 c @wpMap ?_);exact⟨zr,_,rfl,_,_,_,rfl,rfl⟩
def sureB(p:PlanP)(s prn:Int):Bool:=decide (thrI p s prn*2^s.toNat<floorI p s prn)
def sureE(p:PlanP)(b s prn:Int):AV:=if detErr p b s prn=0 then .tuple [.bool (sureB p s prn),.int .i64 0]else .tuple [.bool false,.int .i64 (detErr p b s prn)]
theorem jnl{s:Int}(ok:PlanOk p)(h:0<=s/\s<=30)(prn:Int):0<=thrI p s prn*2^s.toNat/\thrI p s prn*2^s.toNat<=6602356709823/\boundI p s prn<=thrI p s prn*2^s.toNat:=by
 have b:=jct ok h prn;have q:=jcP h;have t:=jlX ok h prn;unfold thrI at*;generalize (2:Int)^s.toNat=P at*;generalize boundI p s prn=B at*;have e:=Int.ediv_mul_le (B+P-1) (show P≠0 by omega);have l:=Int.lt_ediv_add_one_mul_self (B+P-1) (show 0<P by omega);have m:=Int.mul_nonneg t.1 (show 0<=P by omega);rw[Int.add_mul]at l;generalize (B+P-1)/P*P=Y at*;omega
def claimB(t pw m:Int):Bool:=decide (t*t*m<pw)
def jg9(p:PlanP)(b s prn pw m:Int):AV:=
 if detErr p b s prn=0 then if pw<0\/m<1\/1000<m then .tuple [.bool false,.int .i64 2]else .tuple [.bool (claimB (thrI p s prn) pw m),.int .i64 0]else .tuple [.bool false,.int .i64 (detErr p b s prn)]
theorem em_of{q:Int}(h:0<=q)(c:q/18446744073709551616=0):q% 18446744073709551616=q:=by omega
theorem juC{q m pw:Int}(h:0<=q*m)(hp: -9223372036854775808<=pw/\pw<=9223372036854775807)(e:q% 18446744073709551616=q):
  (q% 18446744073709551616*m/18446744073709551616=0->q% 18446744073709551616*m% 18446744073709551616=q*m)/\(¬q% 18446744073709551616*m/18446744073709551616=0->¬q*m<pw):=by
 rw[e];generalize q*m=Y at*;omega
theorem juD{q m pw:Int}(h:0<=q)(h2:q<=q*m)(hp: -9223372036854775808<=pw/\pw<=9223372036854775807)(c:¬q/18446744073709551616=0):¬q*m<pw:=by
 generalize q*m=Y at*;omega
theorem jfy(hC:Has C TA){p:PlanP}{vp:AV}{b s prn pw m:Int}{h:Heap}(R:RI h vp p.prns)(h64:p.ok64)(hpw:In64 pw)(hm:In64 m):
  ACalls C 313 [plA p vp,gA b s,.int .i64 prn,.int .i64 pw,.int .i64 m] h (fun r h'=>r=jg9 p b s prn pw m/\HSub h h'):=by
 have v1:=R.one;have kr:=fun H (R1:RI H vp p.prns)=>jkI (b:=b) (s:=s) (prn:=prn) hC (h:=H) R1 h64;have kt:=fun(ok:PlanOk p) (hs:0<=s/\s<=30) H sv (R1:RI H vp p.prns) (V:SumV H sv p s) (hin:prn∈p.prns)=>jnk (b:=b) hC (h:=H) ok hs R1 V hin;have e0:detErr p b s prn=0->askErr p b s=0/\prn∈p.prns:=jeH;have tr:=fun(ok:PlanOk p) (hs:0<=s/\s<=30)=>jlX ok hs prn;unfold jg9 claimB;unfold In64 at hpw hm;generalize detErr p b s prn=E at*;unfold askA plA gA at*;by_cases c:E=0
 ·subst c;obtain⟨ea,hin⟩:=e0 rfl;obtain⟨ok,hg⟩:=jdQ ea;have hs:=(jcs hg).2.2;have kt:=fun H sv R1 V=>kt ok hs H sv R1 V hin;have tr:=tr ok hs;generalize thrI p s prn=Th at*;clear e0 ea;have k1:=fun H=>jjD hC (a:=Th) (b:=Th) (h:=H) (by omega) (by omega);have sq:=Int.mul_nonneg tr.1 tr.1;have lo:0<=Th*Th% 18446744073709551616/\Th*Th% 18446744073709551616<18446744073709551616:=by omega
  have hi:0<=Th*Th/18446744073709551616/\Th*Th/18446744073709551616<=18446744073709551615:=by
   have:=Int.mul_le_mul tr.2 tr.2 tr.1 (by decide);generalize Th*Th=q at*;omega
  have k2:=fun(hm1:1<=m/\m<=1000) H=>jjD hC (a:=Th*Th% 18446744073709551616) (b:=m) (h:=H) lo (by omega);obtain⟨d,o,pb,w,mn,mx,nz,prns⟩:=p;dsimp only at*;refine zf 313 B313 hC ?_;simp only[B313,zB];refine zs ?_;refine kad (kr _ (R.mono zr)) ?_;rintro r h2 ⟨sA,sv,rfl,⟨a1,a2,a3,rfl,o1⟩,V⟩;have V:=V rfl;have z2:=sA.size;simp only[Heap.size_push]at z2;have g4:h2.get (h.size+1)=some (.cells [.int .i64 b,.int .i64 s] true 0):=(sA.get _ (by simp only[Heap.size_push];omega)).trans (by exact ze);have hs2:HSub h h2:=(show HSub h _ from zr).trans sA
  by_cases c1:pw<0
  ·refine zs3 @wpMap c1 @gV_u ?_;exact⟨by simp,(zh hs2)⟩
  by_cases c2:m<1
  ·refine zs4 @wpMap c1 c2 @gV_u ?_;exact⟨by simp,(zh hs2)⟩
  by_cases c3:1000<m
  ·refine zs5 @wpMap c1 c2 c3 @gV_u ?_;exact⟨by simp,(zh hs2)⟩
  have k2:=k2 (by omega);have m1:=Int.mul_nonneg sq (show 0<=m by omega);have m2:=Int.mul_le_mul (Int.le_refl (Th*Th)) (show 1<=m by omega) (by decide) sq;rw[Int.mul_one]at m2;have lx:=em_of sq;have wr:=fun e=>juC (q:=Th*Th) (m:=m) (pw:=pw) m1 hpw e;have wn:=juD (pw:=pw) sq m2 hpw;refine zs5 @wpMap c1 c2 c3 @gV_u ?_;refine kaa (kt _ _ (R.mono (zh hs2)) (V.mono zr)) (zs ?_);refine kaa (k1 _) ?_;by_cases c4:Th*Th/18446744073709551616=0
  ·refine zs1 @c4 ?_;refine kaa (k2 _) ?_;have lx:=lx c4;by_cases c5:Th*Th% 18446744073709551616*m/18446744073709551616=0
   ·have ly:=(wr lx).1 c5;refine zs3 @c5 ly @gV_u ?_;exact⟨by simp[c1,c2,c3],(zh hs2)⟩
   ·have ny:=(wr lx).2 c5;refine zs2 @c5 @gV_u ?_;exact⟨by simp[c1,c2,c3,ny],(zh hs2)⟩
  ·have ny:=wn c4;refine zs1 @c4 ?_;exact⟨by simp[c1,c2,c3,ny],(zh hs2)⟩
 ·obtain⟨d,o,pb,w,mn,mx,nz,prns⟩:=p;dsimp only at*;refine zf 313 B313 hC ?_;simp only[B313,zB];refine zs ?_;refine kad (kr _ (R.mono zr)) ?_;rintro r h2 ⟨sA,sv,rfl,⟨a1,a2,a3,rfl,o1⟩,V⟩;have hs2:HSub h h2:=(show HSub h _ from zr).trans sA;refine zs2 @wpMap c ?_;exact⟨by simp,(zh hs2)⟩
theorem PlanOk.cross(ok:PlanOk p)(ha:a∈p.prns)(hb:b∈p.prns)(hne:¬b=a):jn3 p.d p.o a b=tup2 (sumI p.d p.o a b) 0:=by
 unfold jn3 sumI;rw[if_pos (ok.samp (by simp[ha,hb])),if_neg (fun e=>hne e.symm)]
theorem PlanOk.side(ok:PlanOk p)(ha:a∈p.prns):sideE p.d p.o a=tup2 (sumI p.d p.o a a) 0:=by
 unfold sideE sumI;rw[if_pos (ok.samp (by simp[ha])),if_pos rfl]
theorem jkJ(hC:Has C TA){s:Int}(R:RI h vp p.prns)(h64:p.ok64):ACalls C 343 [plA p vp,gA b s] h (fun r h'=>r=.int .i64 (askErr p b s)/\h'=h):=by
 refine kae (P:=fun r h'=>r=.int .i64 (askErr p b s)/\HSub h h') ?_ (fun r h' hp=>⟨by rw[hp.1];trivial,hp.2,hp.1,rfl⟩);have v1:=R.one;have kp:=fun H (R1:RI H vp p.prns)=>jdc hC (h:=H) (p:=p) ⟨vp,rfl,R1⟩ h64;have kg:=fun H=>jfx hC (h:=H) (b:=b) (s:=s);unfold askErr;unfold plA;unfold gA at*;by_cases c:p.err=0
 ·rw[if_pos c];rw[c]at kp;refine zf 343 B343 hC ?_;simp only[B343,zB];refine zs ?_;refine kaa (kp _ (R.mono zr)) (zs ?_);refine kaa (kg _) (zs ?_);exact zr
 ·rw[if_neg c];refine zf 343 B343 hC ?_;simp only[B343,zB];refine zs ?_;refine kaa (kp _ (R.mono zr)) (zs1 c ?_);exact zr
theorem jgc(hC:Has C TA){s:Int}(R:RI h vp p.prns)(h64:p.ok64):ACalls C 335 [plA p vp,gA b s,.int .i64 prn] h (fun r h'=>r=.int .i64 (detErr p b s prn)/\h'=h):=by
 refine kae (P:=fun r h'=>r=.int .i64 (detErr p b s prn)/\HSub h h') ?_ (fun r h' hp=>⟨by rw[hp.1];trivial,hp.2,hp.1,rfl⟩);have v1:=R.one;have kp:=fun H (R1:RI H vp p.prns)=>jkJ hC (h:=H) (p:=p) (b:=b) (s:=s) R1 h64;have e0:askErr p b s≠0->detErr p b s prn=askErr p b s:=fun e=>by unfold detErr;rw[if_neg e]
 have e1:askErr p b s=0->prn∈p.prns->detErr p b s prn=0:=fun e m=>by unfold detErr;rw[if_pos e,if_pos m]
 have e2:askErr p b s=0->prn∉p.prns->detErr p b s prn=18:=fun e m=>by unfold detErr;rw[if_pos e,if_neg m]
 have hlt:=R.lt;generalize detErr p b s prn=E at*;generalize askErr p b s=AE at*;unfold plA gA at*;by_cases c:AE=0
 ·rw [c] at kp;refine zf 335 B335 hC ?_; simp only [B335, zB]; refine zs ?_;refine kaa (kp _ (R.mono zr)) (zs ?_);refine jae (fun j t h' => HSub h h' /\ h'.get h.size = some (.cells [.int .i64 p.d, .int .i64 p.o, .int .i64 p.pb, .int .i64 p.w, .int .i64 p.mn, .int .i64 p.mx, .int .i64 p.nz, vp] true 0) /\ ∃ k : Nat, t 2 = .int .i64 prn /\ t 3 = .ptr h.size 0 /\ t 8 = .int .i64 (k : Nat) /\ k <= p.prns.length /\ (∀ i, i < k -> p.prns.getD i 0 ≠ prn) /\ j = p.prns.length - k) (j0 := p.prns.length)
   ⟨zr,by exact ze,0,rfl,rfl,rfl,by omega,by omega,rfl⟩ ?_
  rintro j t h1 ⟨sH,gP,k,e2',e3,e8,hk,hb,hj⟩;have R1:=R.mono sH;refine zs5 e2' e3 e8 gP @R1.len ?_;refine kaf (fun c1=>?_) (fun c1=>?_)
  ·have hk':k<p.prns.length:=by omega
   refine zs6 e2' e3 e8 gP @R1.idx (R1.load hk') ?_;refine kaf (fun c2=>?_) (fun c2=>?_)
   ·refine zs ?_;exact⟨by rw[e1 c (c2▸jam hk')],sH⟩
   ·refine zs4 e2' e3 e8 gP ?_;refine⟨_,⟨sH,k+1,by omega,by omega,fun i hi=>?_,rfl⟩,by omega⟩;rcases Nat.lt_or_ge i k with x|x
    ·exact hb i x
    ·obtain rfl:i=k:=by omega
     exact c2
  ·obtain rfl:k=p.prns.length:=by omega
   refine zs ?_;refine⟨by rw[e2 c];intro hm;obtain⟨i,hi,e⟩:=List.mem_iff_getElem.1 hm;exact hb i hi (by rw[List.getD_eq_getElem?_getD,List.getElem?_eq_getElem hi];exact e),sH⟩
 ·rw[e0 c];refine zf 335 B335 hC ?_;simp only[B335,zB];refine zs ?_;refine kaa (kp _ (R.mono zr)) (zs1 c ?_);exact zr
theorem jfd(hC:Has C TA)(ok:PlanOk p)(R:RI h vp p.prns)(h64:p.ok64)(hin:prn∈p.prns):ACalls C 336 [plA p vp,.int .i64 prn] h (fun r h'=>r=.int .i64 (p.oth prn)/\h'=h):=by
 refine kae (P:=fun r h'=>r=.int .i64 (p.oth prn)/\HSub h h') ?_ (fun r h' hp=>⟨by rw[hp.1];trivial,hp.2,hp.1,rfl⟩);have v1:=R.one;have l8:=ok.len;have kx:=fun(k:Nat) (hk:k<p.prns.length) (hne:¬p.prns.getD k 0=prn) H=>jmY hC (h:=H) h64.1 h64.2.1 (h64.2.2.2.2.2.2.2 prn hin) (h64.2.2.2.2.2.2.2 _ (jam hk));have kx2:=fun(k:Nat) (hk:k<p.prns.length) (hne:¬p.prns.getD k 0=prn)=>ok.cross hin (jam hk) hne;have sr:=fun a b=>jbB ok.nums a b;have rg:=fun k=>jeZ sr (prn:=prn) (ps:=p.prns) k;have os:∀k,othK (sumI p.d p.o) prn p.prns (k+1)=othK (sumI p.d p.o) prn p.prns k+if p.prns.getD k 0=prn then 0 else sumI p.d p.o prn (p.prns.getD k 0):=fun k=>rfl
 unfold PlanP.oth plA;generalize sumI p.d p.o=f at*;clear h64 ok;obtain⟨d,o,pb,w,mn,mx,nz,prns⟩:=p;dsimp only at*;refine zf 336 B336 hC ?_;simp only[B336,zB];refine zs ?_;refine jae (fun j t h'=>HSub h h'/\h'.get h.size=some (.cells [.int .i64 d,.int .i64 o,.int .i64 pb,.int .i64 w,.int .i64 mn,.int .i64 mx,.int .i64 nz,vp] true 0)/\∃k:Nat,t 1=.int .i64 prn/\t 2=.ptr h.size 0/\t 5=.int .i64 (othK f prn prns k)/\t 6=.int .i64 (k:Nat)/\k<=prns.length/\j=prns.length-k) (j0:=prns.length)
  ⟨zr,by exact ze,0,rfl,rfl,rfl,rfl,by omega,rfl⟩ ?_
 rintro j t h1 ⟨sH,gP,k,e1,e2,e5,e6,hk,hj⟩;have R1:=R.mono sH;refine zs6 e1 e2 e5 e6 gP @R1.len ?_;refine kaf (fun c1=>?_) (fun c1=>?_)
 ·have hk':k<prns.length:=by omega
  have kx:=kx k hk';have kx2:=kx2 k hk';have os:=os k;have rk:=rg k;have sr:=sr prn (prns.getD k 0);have xq:∃q,q=prns.getD k 0:=⟨_,rfl⟩;obtain⟨q,hq⟩:=xq;have lk:=R1.load hk';rw[<-hq]at kx kx2 os sr lk;by_cases c2:q=prn
  ·rw[if_pos c2,Int.add_zero]at os;refine zs7 e1 e2 e5 e6 gP @R1.idx (zI lk c2) ?_;exact⟨_,⟨sH,k+1,by rw[os],by omega,by omega,rfl⟩,by omega⟩
  ·rw[if_neg c2]at os;have kx2:=kx2 c2;rw[kx2]at kx;refine zs7 e1 e2 e5 e6 gP @R1.idx (zI lk c2) ?_;refine kad (kx c2 _) ?_;rintro r h2 ⟨rfl,s2⟩;refine zs5 @tup2.eq_1 e1 e2 e5 e6 ?_;exact⟨_,⟨sH.trans s2,(s2.get _ (kab gP)).trans gP,k+1,by rw[os],by omega,by omega,rfl⟩,by omega⟩
 ·obtain rfl:k=prns.length:=by omega
  refine zs1 e5 ?_;exact sH
theorem jiz(hC:Has C TA){s:Int}(ok:PlanOk p)(hg:gErr b s=0)(v1:vp.one=true):ACalls C 337 [plA p vp,gA b s] h (fun r h'=>r=.int .i64 (humI p s)/\h'=h):=by
 refine kae (P:=fun r h'=>r=.int .i64 (humI p s)/\HSub h h') ?_ (fun r h' hp=>⟨by rw[hp.1];trivial,hp.2,hp.1,rfl⟩);have kc:=fun H=>jlV hC (h:=H) (b:=b) (s:=s);have ks:=fun H=>jb9 hC (h:=H) (p:=p) ok.nums v1;unfold coarE at kc;rw[if_pos hg]at kc;have hr:=jiy ok (jcs hg).2.2;have cr:=jgP (jcs hg).2.2;have nr:=ok.nums.2.2.2.2.2.2;unfold humI;unfold plA gA at*;generalize p.size=S at*;generalize coarI s=cs at*;obtain⟨d,o,pb,w,mn,mx,nz,prns⟩:=p;dsimp only at*;refine zf 337 B337 hC ?_;simp only[B337,zB];refine zs ?_;refine kaa (kc _) (zs1 @tup2.eq_1 ?_)
 refine kaa (ks _) (zs ?_);exact zr
theorem jnm(hC:Has C TA){p:PlanP}{vp:AV}{b s prn:Int}{h:Heap}(R:RI h vp p.prns)(h64:p.ok64):
  ACalls C 316 [plA p vp,gA b s,.int .i64 prn] h (fun r h'=>r=(if detErr p b s prn=0 then tup2 (boundI p s prn) 0 else tup2 0 (detErr p b s prn))/\h'=h):=by
 refine kae (P:=fun r h'=>r=(if detErr p b s prn=0 then tup2 (boundI p s prn) 0 else tup2 0 (detErr p b s prn))/\HSub h h') ?_ (fun r h' hp=>⟨by rw[hp.1];unfold tup2;split<;>exact⟨trivial,trivial,trivial⟩,hp.2,hp.1,rfl⟩);have v1:=R.one;have kc:=fun H (R1:RI H vp p.prns)=>jgc hC (h:=H) (p:=p) (b:=b) (s:=s) (prn:=prn) R1 h64;have e0:detErr p b s prn=0->askErr p b s=0/\prn∈p.prns:=jeH;generalize detErr p b s prn=E at*;by_cases c:E=0
 ·subst c;obtain⟨ea,hin⟩:=e0 rfl;obtain⟨ok,hg⟩:=jdQ ea;have ks:=fun H=>jpa hC (h:=H) h64.1 h64.2.1 (h64.2.2.2.2.2.2.2 prn hin);rw[ok.side hin]at ks;have ko:=fun H (R1:RI H vp p.prns)=>jfd hC (h:=H) ok R1 h64 hin;have kh:=fun H=>jiz hC (h:=H) ok hg v1;have bd:=jct ok (jcs hg).2.2 prn;have m1:=jbB ok.nums prn prn;have m2:=jgb ok prn;have m3:=jhx ok (x:=sumI p.d p.o prn prn+p.oth prn) (by omega);have m4:=ok.nums.2.2.2.2;rw[if_pos rfl];unfold boundI at*;unfold plA gA at*;clear e0 ea ok;generalize p.oth prn=O at*;generalize sumI p.d p.o prn prn=SI1 at*
  generalize humI p s=HM at*;clear h64;obtain⟨d,o,pb,w,mn,mx,nz,prns⟩:=p;dsimp only at*;refine zf 316 B316 hC ?_;simp only[B316,zB];refine zs ?_;refine kaa (kc _ (R.mono zr)) (zs ?_);refine kad (ks _) ?_;rintro r h2 ⟨rfl,sA⟩;have z2:=sA.size;simp only[Heap.size_push]at z2;have g3:h2.get h.size=some (.cells [.int .i64 d,.int .i64 o,.int .i64 pb,.int .i64 w,.int .i64 mn,.int .i64 mx,.int .i64 nz,vp] true 0):=(sA.get _ (by simp only[Heap.size_push];omega)).trans (by exact ze);have g4:h2.get (h.size+1)=some (.cells [.int .i64 b,.int .i64 s] true 0):=(sA.get _ (by simp only[Heap.size_push];omega)).trans (by exact ze)
  have hs2:HSub h h2:=(show HSub h _ from zr).trans sA;refine zs3 @tup2.eq_1 g3 g4 ?_;refine kaa (ko _ (R.mono (zh hs2))) (zs2 g3 g4 ?_);refine kaa (kh _) (zs ?_);exact⟨rfl,(zh hs2)⟩
 ·obtain⟨d,o,pb,w,mn,mx,nz,prns⟩:=p;unfold plA gA at*;dsimp only at*;refine zf 316 B316 hC ?_;simp only[B316,zB];refine zs ?_;refine kaa (kc _ (R.mono zr)) (zs1 c ?_);exact⟨by simp[tup2],zr⟩
theorem jeI(hC:Has C TA){p:PlanP}{vp:AV}{b s prn:Int}{h:Heap}(R:RI h vp p.prns)(h64:p.ok64):
  ACalls C 318 [plA p vp,gA b s,.int .i64 prn] h (fun r h'=>r=(if detErr p b s prn=0 then tup2 (thrI p s prn) 0 else tup2 0 (detErr p b s prn))/\h'=h):=by
 refine kae (P:=fun r h'=>r=(if detErr p b s prn=0 then tup2 (thrI p s prn) 0 else tup2 0 (detErr p b s prn))/\HSub h h') ?_ (fun r h' hp=>⟨by rw[hp.1];unfold tup2;split<;>exact⟨trivial,trivial,trivial⟩,hp.2,hp.1,rfl⟩);have v1:=R.one;have kc:=fun H (R1:RI H vp p.prns)=>jnm hC (h:=H) (p:=p) (b:=b) (s:=s) (prn:=prn) R1 h64;have e0:detErr p b s prn=0->askErr p b s=0/\prn∈p.prns:=jeH;generalize detErr p b s prn=E at*;by_cases c:E=0
 ·subst c;obtain⟨ea,hin⟩:=e0 rfl;obtain⟨ok,hg⟩:=jdQ ea;have bd:=jct ok (jcs hg).2.2 prn;have p30:=jcP (jcs hg).2.2;have gs:=(jcs hg).2.2;rw[if_pos rfl]at kc;rw[if_pos rfl];unfold thrI;unfold plA gA at*;have fd:=Int.fdiv_eq_ediv_of_nonneg (boundI p s prn+2^s.toNat-1) (show 0<=(2:Int)^s.toNat by omega);clear e0 ea ok h64;generalize boundI p s prn=B at*;generalize hP:(2:Int)^s.toNat=P at*;obtain⟨d,o,pb,w,mn,mx,nz,prns⟩:=p;dsimp only at*;refine zf 318 B318 hC ?_;simp only[B318,zB];refine zs2 @hP @Int.one_mul ?_;refine kaa (kc _ (R.mono zr)) ?_
  refine zs4 @tup2.eq_1 @hP fd @Int.one_mul ?_;exact zr
 ·rw[if_neg c]at kc;obtain⟨d,o,pb,w,mn,mx,nz,prns⟩:=p;unfold plA gA at*;dsimp only at*;refine zf 318 B318 hC ?_;simp only[B318,zB];refine zs ?_;refine kaa (kc _ (R.mono zr)) (zs2 @tup2.eq_1 c ?_);exact⟨by simp,zr⟩
theorem jnn(hC:Has C TA){p:PlanP}{vp:AV}{b s prn:Int}{h:Heap}(R:RI h vp p.prns)(h64:p.ok64):
  ACalls C 320 [plA p vp,gA b s,.int .i64 prn] h (fun r h'=>r=(if detErr p b s prn=0 then tup2 (floorI p s prn) 0 else tup2 0 (detErr p b s prn))/\h'=h):=by
 refine kae (P:=fun r h'=>r=(if detErr p b s prn=0 then tup2 (floorI p s prn) 0 else tup2 0 (detErr p b s prn))/\HSub h h') ?_ (fun r h' hp=>⟨by rw[hp.1];unfold tup2;split<;>exact⟨trivial,trivial,trivial⟩,hp.2,hp.1,rfl⟩);have v1:=R.one;have kc:=fun H (R1:RI H vp p.prns)=>jgc hC (h:=H) (p:=p) (b:=b) (s:=s) (prn:=prn) R1 h64;have e0:detErr p b s prn=0->askErr p b s=0/\prn∈p.prns:=jeH;generalize detErr p b s prn=E at*;by_cases c:E=0
 ·subst c;obtain⟨ea,hin⟩:=e0 rfl;obtain⟨ok,hg⟩:=jdQ ea;have ks:=fun H=>jb9 hC (h:=H) (p:=p) ok.nums v1;have ko:=fun H (R1:RI H vp p.prns)=>jfd hC (h:=H) ok R1 h64 hin;have kh:=fun H=>jiz hC (h:=H) ok hg v1;have m2:=jgb ok prn;have m3:=jhx ok (x:=p.oth prn) (by omega);have m4:=ok.nums.2.2.2.2;have m5:=jsz ok;have m6:=jal ok.nums;have m7:=jjC ok (jcs hg).2.2;rw[if_pos rfl];unfold floorI at*;unfold plA gA at*;clear e0 ea ok;generalize p.oth prn=O at*;generalize humI p s=HM at*;generalize p.size=S at*;clear h64;obtain⟨d,o,pb,w,mn,mx,nz,prns⟩:=p
  dsimp only at*;refine zf 320 B320 hC ?_;simp only[B320,zB];refine zs ?_;refine kaa (kc _ (R.mono zr)) (zs ?_);refine kaa (ks _) (zs ?_);refine kaa (ko _ (R.mono zr)) (zs ?_);refine kaa (kh _) (zs ?_);exact⟨rfl,zr⟩
 ·obtain⟨d,o,pb,w,mn,mx,nz,prns⟩:=p;unfold plA gA at*;dsimp only at*;refine zf 320 B320 hC ?_;simp only[B320,zB];refine zs ?_;refine kaa (kc _ (R.mono zr)) (zs1 c ?_);exact⟨by simp[tup2],zr⟩
theorem jpl(hC:Has C TA){p:PlanP}{vp:AV}{b s prn:Int}{h:Heap}(R:RI h vp p.prns)(h64:p.ok64):
  ACalls C 322 [plA p vp,gA b s,.int .i64 prn] h (fun r h'=>r=sureE p b s prn/\h'=h):=by
 refine kae (P:=fun r h'=>r=sureE p b s prn/\HSub h h') ?_ (fun r h' hp=>⟨by rw[hp.1];unfold sureE;split<;>exact⟨trivial,trivial,trivial⟩,hp.2,hp.1,rfl⟩);have v1:=R.one;have kt:=fun H (R1:RI H vp p.prns)=>jeI hC (h:=H) (p:=p) (b:=b) (s:=s) (prn:=prn) R1 h64;have kf:=fun H (R1:RI H vp p.prns)=>jnn hC (h:=H) (p:=p) (b:=b) (s:=s) (prn:=prn) R1 h64;have e0:detErr p b s prn=0->askErr p b s=0/\prn∈p.prns:=jeH;unfold sureE sureB;generalize detErr p b s prn=E at*;by_cases c:E=0
 ·subst c;obtain⟨ea,hin⟩:=e0 rfl;obtain⟨ok,hg⟩:=jdQ ea;have gs:=(jcs hg).2.2;have tm:=jnl ok gs prn;rw[if_pos rfl]at kt kf;rw[if_pos rfl];unfold plA gA at*;clear e0 ea ok h64;generalize thrI p s prn=Th at*;generalize floorI p s prn=F at*;generalize hP:(2:Int)^s.toNat=P at*;obtain⟨d,o,pb,w,mn,mx,nz,prns⟩:=p;dsimp only at*;refine zf 322 B322 hC ?_;simp only[B322,zB];refine zs ?_;refine kaa (kt _ (R.mono zr)) (zs1 @tup2.eq_1 ?_);refine kaa (kf _ (R.mono zr)) (zs2 @tup2.eq_1 @hP ?_);exact zr
 ·rw[if_neg c]at kt;obtain⟨d,o,pb,w,mn,mx,nz,prns⟩:=p;unfold plA gA at*;dsimp only at*;refine zf 322 B322 hC ?_;simp only[B322,zB];refine zs ?_;refine kaa (kt _ (R.mono zr)) (zs2 @tup2.eq_1 c ?_);exact⟨by simp,zr⟩
def jiA(p:PlanP)(s:List (Int×Int))(prn f m:Int):Int:=if firstE [p.err,codeE p prn,sampE s,placE f m]≠0 then firstE [p.err,codeE p prn,sampE s,placE f m]else if fitB s p f m=true then 0 else 16
def jdo(p:PlanP)(b sh:Int)(s:List (Int×Int))(prn f m:Int):Int:=if firstE [p.err,gErr b sh,codeE p prn,sampE s,placE f m]≠0 then firstE [p.err,gErr b sh,codeE p prn,sampE s,placE f m]else if fitB s p f m=true then 0 else 16
theorem jcu:∀{l:List Int},firstE l=0->∀x∈l,x=0
 |[],_=>by simp
 | x :: l, h => by
  unfold firstE at h;split at h
  ·omega
  ·intro y hy;rcases List.mem_cons.1 hy with rfl|hy
   ·omega
   ·exact jcu h y hy
theorem jiB{m:Int}(p64:p.ok64)(h0:p.err=0)(h1:codeE p prn=0)(h2:sampE s=0)(h3:placE f m=0):AcOk p s prn/\(0<=f/\f<=1048576)/\(1<=m/\m<=16):=by
 unfold codeE at h1;unfold sampE at h2;unfold placE at h3;have c1:prn∈p.prns:=by
  by_cases q:prn∈p.prns
  ·exact q
  ·rw[if_neg q]at h1;omega
 by_cases q:1048576<s.length
 ·rw[if_pos q]at h2;omega
 ·rw[if_neg q]at h2;by_cases q2:∀x∈s,inS 127 x
  ·split at h3
   ·omega
   ·exact⟨⟨h0,jdP h0,p64,c1,by omega,q2⟩,by omega,by omega⟩
  ·rw[if_neg q2]at h2;omega
def scnI(p:PlanP)(s:List (Int×Int))(prn f m:Int):List Int:=scanL s (sampL p.d prn p.o.toNat) f p.size m.toNat p.size.toNat
def hitA(prn f pw m:Int):AV:=.agg [.int .i64 prn,.int .i64 f,.int .i64 pw,.int .i64 m]
def hitI(p:PlanP)(s:List (Int×Int))(prn f m:Int):AV:=hitA prn (f+(bstK (scnI p s prn f m) p.size.toNat:Nat)) ((scnI p s prn f m).getD (bstK (scnI p s prn f m) p.size.toNat) 0) m
def jdp(p:PlanP)(b sh:Int)(s:List (Int×Int))(prn f m:Int):AV:=if jdo p b sh s prn f m=0 then .tuple [hitI p s prn f m,.bool (claimB (thrI p sh prn) ((scnI p s prn f m).getD (bstK (scnI p s prn f m) p.size.toNat) 0) m),.int .i64 0]else .tuple [hitA 0 0 0 0,.bool false,.int .i64 (jdo p b sh s prn f m)]
theorem jpm(hC:Has C TA){v:AV}{s:List (Int×Int)}{d o p a:Int}{m:Nat}{h:Heap}(hs:SI h v s)(hd:In64 d)(ho:In64 o)(hp:In64 p)(ha: -2000000<=a/\a<=2000000)(hm:1<=m/\m<=8192)(c:bankErr s d o p a=0)(hcl:1<=(sampL d p o.toNat).length):
  ACalls C 277 [v,.int .i64 d,.int .i64 o,.int .i64 p,.int .i64 a,.int .i64 (m:Nat)] h (fun r h'=>∃w,r=.tuple [w,.int .i64 0]/\HSub h h'/\SI h' w (bankL s (sampL d p o.toNat) a 1 m)/\∀i∈w.ids,h.size<=i):=by
 have kM:=jeF hC hs hd ho hp (a:=a) (by unfold In64;omega);have v1:=hs.one;refine zf 277 B277 hC ?_;simp only[B277,zB];refine zs ?_;refine kad kM ?_;rintro r h1 ⟨s1,x,rfl,g0,g1⟩;have ok:=jgH c;have sl:=jkv ok.2.2.1;obtain⟨w,rfl,R⟩:=g0 c;have w1:=R.one;have sb:=fun(H:Heap) i=>jeX (H:=H) (i:=i) (a:=.nilslice) (b:=.nilslice) v1 w1;rw[c];unfold corA;by_cases c2:64<m
 ·have kS:=fun h2 (q:HSub h1 h2)=>jkA hC (a:=a) (m:=m) (hs.mono (s1.trans q)) (R.mono q) ok.2.1 (jaZ _ _ _) (by omega) (by omega) (by omega);unfold corA at kS;refine zs3 @corE.eq_1 sb @gV_u ?_;refine kad (kS _ zr) ?_;rintro r h2 ⟨s2,R2,F2⟩;have z1:=s1.size;refine zs ?_;exact⟨_,rfl,s1.trans (HSub.trans zr s2),R2,fun i hi=>by have:=F2 i hi;simp only[Heap.size_push,Heap.size_put,Heap.size_reserve]at this;omega⟩
 ·have kS:=fun h2 (q:HSub h1 h2)=>jfc hC (a:=a) (m:=m) (hs.mono (s1.trans q)) (R.mono q) ok.2.1 (jaZ _ _ _) (by omega) (by omega) (by omega);unfold corA at kS;refine zs3 @corE.eq_1 sb @gV_u ?_;refine kad (kS _ zr) ?_;rintro r h2 ⟨s2,R2,F2⟩;have z1:=s1.size;refine zs ?_;exact⟨_,rfl,s1.trans (HSub.trans zr s2),R2,fun i hi=>by have:=F2 i hi;simp only[Heap.size_push,Heap.size_put,Heap.size_reserve]at this;omega⟩
theorem jfe(hC:Has C TA){v vp:AV}{p:PlanP}{prn f m:Int}{h:Heap}(hv:v.cells=[v])(v1:vp.one=true):ACalls C 380 [v,plA p vp,.int .i64 prn,.int .i64 f,.int .i64 m] h (fun r h'=>r=.func 388 [] [.ptr (h.size+1) 0,.ptr (h.size+4) 0,.ptr h.size 0,.ptr (h.size+2) 0,.ptr (h.size+3) 0]/\
  h'=((((h.push (.cells [v] true 0)).push (.cells [.int .i64 p.d,.int .i64 p.o,.int .i64 p.pb,.int .i64 p.w,.int .i64 p.mn,.int .i64 p.mx,.int .i64 p.nz,vp] true 0)).push (.cells [.int .i64 prn] true 0)).push (.cells [.int .i64 f] true 0)).push (.cells [.int .i64 m] true 0)):=by
 unfold plA;refine zf 380 B380 hC ?_;simp only[B380,zB];exact ze1 @hv
theorem kbv{l:List (Int×Int)}(H:SI h v l)(hh:∀i∈v.ids,h'.get i=h.get i):SI h' v l:=by
 obtain⟨a,b,⟨rfl,h1⟩|⟨i,o,c,ws,wr',u',rfl,hg',hle,hc,x⟩⟩:=H
 ·exact⟨a,b,.inl ⟨rfl,h1⟩⟩
 ·exact⟨a,b,.inr ⟨i,o,c,ws,wr',u',rfl,(hh i (by simp[AV.ids])).trans hg',hle,hc,x⟩⟩
def Keeps(h h' h'':Heap):Prop:=h''.get h.size=h'.get h.size
def swpL(g1 g0:Nat->Int)(i n:Nat):List Int:=(List.range n).map fun j=>if j<i then g1 j else g0 j
theorem jno(g1 g0:Nat->Int)(i n:Nat):(swpL g1 g0 i n).length=n:=by simp[swpL]
theorem jqX(g1 g0:Nat->Int)(n:Nat):swpL g1 g0 0 n=(List.range n).map g0:=by simp[swpL]
theorem jsA(g1 g0:Nat->Int)(n:Nat):swpL g1 g0 n n=(List.range n).map g1:=by
 unfold swpL;exact List.map_congr_left fun j hj=>by rw[if_pos (List.mem_range.1 hj)]
theorem jsB(g1 g0:Nat->Int){n:Nat}(h:i<n):(swpL g1 g0 i n).getD i 0=g0 i:=by
 unfold swpL;simp[List.getD_eq_getElem?_getD,h]
theorem jsC(g1 g0:Nat->Int){n:Nat}(h:i<n):(swpL g1 g0 i n).set i (g1 i)=swpL g1 g0 (i+1) n:=by
 unfold swpL;refine List.ext_getElem (by simp) fun k h1 h2=>?_;simp only[List.length_set,List.length_map,List.length_range]at h1;rw[List.getElem_set];simp only[List.getElem_map,List.getElem_range];by_cases q:i=k
 ·rw[if_pos q,if_pos (by omega),q]
 ·rw[if_neg q];by_cases q2:k<i
  ·rw[if_pos q2,if_pos (by omega)]
  ·rw[if_neg q2,if_neg (by omega)]
theorem jff(hC:Has C TA){l ip im is ic iF m:Nat}{v vp:AV}{p:PlanP}{s:List (Int×Int)}{prn f:Int}{h:Heap}(hs:SI h v s)(R:RI h vp p.prns)(A:AcOk p s prn)(hf:0<=f/\f<=1048576)(hm:1<=m/\m<=16)
  (gp:h.get ip=some (.cells [.int .i64 p.d,.int .i64 p.o,.int .i64 p.pb,.int .i64 p.w,.int .i64 p.mn,.int .i64 p.mx,.int .i64 p.nz,vp] true 0)) (gm:h.get im=some (.cells [.int .i64 (m:Nat)] true 0)) (gs:h.get is=some (.cells [v] true 0)) (gc:h.get ic=some (.cells [.int .i64 prn] true 0)) (gf:h.get iF=some (.cells [.int .i64 f] true 0))
  (J:Nat->Heap->Prop) (D:Heap->Prop) (h0:∀h',HSub h h'->J 0 h') (hb:∀k h',J k h'->h'.get iF=some (.cells [.int .i64 f] true 0))
  (hy:∀k h',J k h'->k<p.size.toNat->h.size<h'.size->jfR C l [.int .i64 (f+(k:Nat)),.int .i64 ((scnI p s prn f m).getD k 0)] h' (fun r h''=>r=.bool true/\J (k+1) h''/\Keeps h h' h''))
  (hd:∀h',J p.size.toNat h'->D h'):ACalls C 388 [.yield l,.ptr ip 0,.ptr im 0,.ptr is 0,.ptr ic 0,.ptr iF 0] h (fun _ h'=>D h'):=by
 have v1:=R.one;have sz:=jal A.ok.nums;have sl1:((sampL p.d prn p.o.toNat).length:Int)=p.size:=by rw[jaF,sz.2.2]
 have kz:=fun H=>jcA hC (h:=H) (vp:=vp) v1 A.ok.nums;have i9:=A.p64.2.2.2.2.2.2.2 _ A.hin;have kB:=fun(a:Int) (ha: -2000000<=a/\a<=2000000) H (q:HSub h H)=>jpm hC (a:=a) (m:=p.size.toNat) (hs.mono q) A.p64.1 A.p64.2.1 i9 ha (by omega) (A.bank ha) (by omega);have kP:=fun x H=>jf8 hC (p:=x) (h:=H);have pb:=fun a k=>A.pw a p.size k;have ww:=fun a=>(jix (A.win a)).2;have sc:scnI p s prn f m=(List.range p.size.toNat).map fun i=>pwK s (sampL p.d prn p.o.toNat) (f+(i:Nat)) p.size m:=by unfold scnI scanL;rw[Int.toNat_natCast]
 have pk0:(List.range p.size.toNat).map (fun i=>pwK s (sampL p.d prn p.o.toNat) (f+(i:Nat)) p.size 0)=List.replicate p.size.toNat 0:=by
  refine List.ext_getElem (by simp) fun k h1 h2=>?_;simp[pwK]
 have pks:=fun a k=>show pwK s (sampL p.d prn p.o.toNat) a p.size (k+1)=pwK s (sampL p.d prn p.o.toNat) a p.size k+powP (sumP s (sampL p.d prn p.o.toNat) (a+(k:Nat)*p.size))from rfl
 rw[sc]at hy;clear sc;obtain⟨n,hn⟩:∃n:Nat,(n:Int)=p.size:=⟨p.size.toNat,by omega⟩;have et:p.size.toNat=n:=by omega
 have n1:31<=n/\n<=8184:=by omega
 rw[et]at kB pk0 hy hd;rw[<-hn]at kz pb pk0 pks hy sl1;have mk:∀k:Nat,k<m->0<=(k:Int)*n/\(k:Int)*n<=16*8184:=fun k hk=>⟨Int.mul_nonneg (by omega) (by omega),Int.mul_le_mul (by omega) (by omega) (by omega) (by omega)⟩;generalize sampL p.d prn p.o.toNat=cd at*;generalize pwK s cd=PK at*;have hzi:List.replicate n (AV.int .i64 0)=ints (List.replicate n 0):=by simp[ints]
 unfold plA at*;have swl:=fun k i=>jno (fun j=>PK (f+(j:Nat)) n (k+1)) (fun j=>PK (f+(j:Nat)) n k) i n;have swg:=fun k i (hi:i<n)=>jsB (fun j=>PK (f+(j:Nat)) n (k+1)) (fun j=>PK (f+(j:Nat)) n k) hi;have sws:=fun k i (hi:i<n)=>jsC (fun j=>PK (f+(j:Nat)) n (k+1)) (fun j=>PK (f+(j:Nat)) n k) hi;have sw0:=fun k=>jqX (fun j=>PK (f+(j:Nat)) n (k+1)) (fun j=>PK (f+(j:Nat)) n k) n;have swa:=fun k=>jsA (fun j=>PK (f+(j:Nat)) n (k+1)) (fun j=>PK (f+(j:Nat)) n k) n;have agl:∀k,((List.range n).map fun i=>PK (f+(i:Nat)) n k).length=n:=fun k=>by simp
 have agg:∀k i,i<n->((List.range n).map fun i=>PK (f+(i:Nat)) n k).getD i 0=PK (f+(i:Nat)) n k:=fun k i hi=>by simp[List.getD_eq_getElem?_getD,hi]
 have lp:=kab gp;have lm:=kab gm;have ls:=kab gs;have lc:=kab gc;have lf:=kab gf;refine zf 388 B388 hC ?_;simp only[B388,zB];refine zs2 @gp @gm ?_;refine kaa (kz _) (zs2 @gm hzi ?_);refine jae (fun j t H=>HSub h H/\h.size+1<=H.size/\t 0=.yield l/\t 1=.ptr ip 0/\t 3=.ptr is 0/\t 4=.ptr ic 0/\t 5=.ptr iF 0/\t 7=.int .i64 (n:Nat)/\t 8=.slice h.size 0 n (.known n)/\t 20=.int .i64 (m:Nat)/\∃k:Nat,H.get h.size=some (.cells (ints ((List.range n).map fun i=>PK (f+(i:Nat)) n k)) true 0)/\t 21=.int .i64 (k:Nat)/\k<=m/\j=m-k) (j0:=m)
  ⟨kac _ _,by simp,rfl,rfl,rfl,rfl,rfl,rfl,rfl,rfl,0,by rw[pk0];exact ze,rfl,by omega,rfl⟩ ?_
 rintro j t H ⟨sH,hz,e0,e1,e3,e4,e5,e7,e8,e20,k,gb,e21,hk,hj⟩;refine zs2 e20 e21 ?_;refine kaf (fun c1=>?_) (fun c1=>?_)
 ·have hk':k<m:=by omega
  have mkk:=mk k hk';have gp1:=(sH.get _ lp).trans gp;have gs1:=(sH.get _ ls).trans gs;have gc1:=(sH.get _ lc).trans gc;have gf1:=(sH.get _ lf).trans gf;have kBk:=kB (f+(k:Nat)*(n:Nat)) (by omega) H sH;have pwe:∀i:Nat,i<n->PK (f+(i:Nat)) n (k+1)=PK (f+(i:Nat)) n k+powP ((bankL s cd (f+(k:Nat)*(n:Nat)) 1 n).getD i (0,0))/\0<=powP ((bankL s cd (f+(k:Nat)*(n:Nat)) 1 n).getD i (0,0))/\powP ((bankL s cd (f+(k:Nat)*(n:Nat)) 1 n).getD i (0,0))<=2200000000000:=fun i hi=>by
   have e:(bankL s cd (f+(k:Nat)*(n:Nat)) 1 n).getD i (0,0)=sumP s cd (f+(i:Nat)+(k:Nat)*(n:Nat)):=by
    unfold bankL;simp only[List.getD_eq_getElem?_getD,List.getElem?_map,List.getElem?_range hi,Option.map_some,Option.getD_some];congr 1;omega
   rw[e];exact⟨pks _ k,ww _⟩
  have bll:=jbm s cd (f+(k:Nat)*(n:Nat)) 1 n;generalize hkn:(k:Int)*(n:Int)=kn at*;generalize bankL s cd (f+kn) 1 n=BL at*;have swl:=swl k;have swg:=swg k;have sws:=sws k;have sw0:=sw0 k;have swa:=swa k;refine zs7 e1 e3 e4 e5 e7 e21 (zI gp1 (zI gs1 (zI gc1 (zI gf1 @hkn)))) ?_;refine kad kBk ?_;rintro r h1 ⟨w,rfl,s1,S1,F1⟩;have S1l:=S1.len;rw[bll]at S1l;have gb1:=(s1.get _ (by omega)).trans gb;have sz1:=s1.size;have sH1:=sH.trans s1;refine zs1 S1l ?_;refine jae (fun j2 u H'=>HSub h H'/\h1.size<=H'.size/\SI H' w BL/\u 0=.yield l/\u 1=.ptr ip 0/\u 3=.ptr is 0/\u 4=.ptr ic 0/\u 5=.ptr iF 0/\u 7=.int .i64 (n:Nat)/\u 8=.slice h.size 0 n (.known n)/\u 20=.int .i64 (m:Nat)/\u 21=.int .i64 (k:Nat)/\u 40=w/\u 41=.int .i64 (n:Nat)/\∃i:Nat,H'.get h.size=some (.cells (ints (swpL (fun j=>PK (f+(j:Nat)) n (k+1)) (fun j=>PK (f+(j:Nat)) n k) i n)) true 0)/\u 42=.int .i64 (i:Nat)/\i<=n/\j2=n-i) (j0:=n)
   ⟨sH1,Nat.le_refl _,S1,e0,e1,e3,e4,e5,e7,e8,e20,e21,rfl,rfl,0,by rw[sw0];exact gb1,rfl,by omega,rfl⟩ ?_
  rintro j2 u H' ⟨sH',hz2,SW,f0,f1,f3,f4,f5,f7,f8,f20,f21,f40,f41,i,gi,f42,hi,hj2⟩;refine zs2 f41 f42 ?_;refine kaf (fun c2=>?_) (fun c2=>?_)
  ·have hi':i<n:=by omega
   have ld:=SW.loadA (k:=i) (by omega);have pwi:=pwe i hi';have pbi:=pb (f+(i:Nat)) k;have swgi:=swg i hi';have swsi:=sws i hi';have swli:=swl i;have kPi:=fun H=>kP (BL.getD i (0,0)) H;have lg:=kab gi;have SW2:∀b,SI (H'.push b) w BL:=fun b=>SW.mono (kac _ _);have SW3:∀b b2,SI ((H'.push b).put h.size b2) w BL:=fun b b2=>kbv (SW2 b) (fun i hi=>get_put_ne (by have:=F1 i hi;omega));generalize swpL (fun j=>PK (f+(j:Nat)) n (k+1)) (fun j=>PK (f+(j:Nat)) n k) i n=L0 at*;rw[pwi.1]at swsi;have SWn:∀b b2,SI ((H'.put h.size b2).push b) w BL:=fun b b2=>(kbv (h':=H'.put h.size b2) SW (fun i hi=>get_put_ne (by have:=F1 i hi;omega))).mono (kac _ _)
   generalize PK (f+(i:Nat)) n k=P0 at*;generalize powP (BL.getD i (0,0))=Pw at*;generalize BL.getD i (0,0)=x at*;obtain⟨x1,x2⟩:=x;unfold smp at ld kPi;dsimp only at*;refine zs7 f8 f40 f42 @SW.idx ld gi (zI swgi swli) ?_;refine kaa (kPi _) (zs6 f8 f42 gi swgi swli swsi ?_);exact⟨_,⟨(zh (sH')),by omega,SWn _ _,f0,f1,f3,f4,f5,f7,f20,f21,f40,f41,i+1,rfl,by omega,by omega,rfl⟩,by omega⟩
  ·obtain rfl:i=n:=by omega
   rw[swa]at gi;refine zs1 f21 ?_;exact⟨_,⟨sH',by omega,f0,f1,f3,f4,f5,f7,f8,f20,k+1,gi,by omega,by omega,rfl⟩,by omega⟩
 ·obtain rfl:k=m:=by omega
  refine zs1 e8 ?_;refine jae (fun j u H'=>∃i:Nat,J i H'/\H'.get h.size=some (.cells (ints ((List.range n).map fun i=>PK (f+(i:Nat)) n k)) true 0)/\u 0=.yield l/\u 5=.ptr iF 0/\u 57=.slice h.size 0 n (.known n)/\u 58=.int .i64 (n:Nat)/\u 59=.int .i64 (i:Nat)/\i<=n/\j=n-i) (j0:=n)
   ⟨0,h0 _ sH,gb,e0,e5,rfl,rfl,rfl,by omega,rfl⟩ ?_
  rintro j u H' ⟨i,hJ,gi,f0,f5,f57,f58,f59,hi,hj2⟩;have gF:=hb i H' hJ;have al:=agl k;have lg:=kab gi;refine zs2 f58 f59 ?_;refine kaf (fun c2=>?_) (fun c2=>?_)
  ·have hi':i<n:=by omega
   have hyi:=hy i H' hJ hi' lg;generalize ((List.range n).map fun i=>PK (f+(i:Nat)) n k)=SC at*;refine zs7 f0 f5 f57 f59 gF gi al ?_;refine kaE hyi ?_;rintro r h'' ⟨rfl,hJ',K⟩;refine zs1 f59 ?_;exact⟨_,⟨i+1,hJ',Eq.trans K gi,f0,f5,f57,f58,by simp,by omega,rfl⟩,by omega⟩
  ·obtain rfl:i=n:=by omega
   refine zs ?_;exact hd _ hJ
def topK(l:List Int)(k:Nat):Int:=if k=0 then-1 else l.getD (bstK l k) 0
theorem jl1(hC:Has C TA){a x q0 q1 q2 q3:Int}{i:Nat}{h:Heap}(g:h.get i=some (.cells [.int .i64 q0,.int .i64 q1,.int .i64 q2,.int .i64 q3] true 0)):
  ACalls C 391 [.int .i64 a,.int .i64 x,.ptr i 0] h (fun r h'=>h'=if q2<x then h.put i (.cells [.int .i64 q0,.int .i64 a,.int .i64 x,.int .i64 q3] true 0)else h):=by
 have li:=kab g;by_cases c:q2<x
 ·rw[if_pos c];refine zf 391 B391 hC ?_;simp only[B391,zB];exact ze2 g @put_put
 ·rw[if_neg c];refine zf 391 B391 hC ?_;simp only[B391,zB];exact ze1 g
theorem jha(hC:Has C TA){v vp:AV}{p:PlanP}{s:List (Int×Int)}{prn f:Int}{m:Nat}{h:Heap}(hs:SI h v s)(R:RI h vp p.prns)(A:AcOk p s prn)(hf:0<=f/\f<=1048576)(hm:1<=m/\m<=16):
  ACalls C 383 [v,plA p vp,.int .i64 prn,.int .i64 f,.int .i64 (m:Nat)] h (fun r h'=>r=hitI p s prn f (m:Nat)/\HSub h h'):=by
 have v1:=R.one;have vc:=hs.cells;have sz:=jal A.ok.nums;have k380:=fun H=>jfe hC (p:=p) (prn:=prn) (f:=f) (m:=(m:Nat)) (h:=H) vc v1;have kb:=fun a x q0 q1 q2 q3 i H g=>jl1 hC (a:=a) (x:=x) (q0:=q0) (q1:=q1) (q2:=q2) (q3:=q3) (i:=i) (h:=H) g;have sb:∀i,i<p.size.toNat->0<=(scnI p s prn f m).getD i 0:=fun i hi=>by
  have q:=A.pw (f+(i:Nat)) p.size m;have e:(scnI p s prn f m).getD i 0=pwK s (sampL p.d prn p.o.toNat) (f+(i:Nat)) p.size m:=by
   have:=jga (s:=s) (c:=sampL p.d prn p.o.toNat) (f:=f) (w:=p.size) (m:=m) hi;unfold scnI;rw[Int.toNat_natCast];exact this
  rw[e];exact q.1
 have n1:31<=p.size.toNat:=by omega
 unfold hitI hitA;have hsm:=fun H (q:HSub h H)=>hs.mono q;have Rm:=fun H (q:HSub h H)=>R.mono q;have k388:=fun l ip im is ic iF H (q:HSub h H) gp gm gs gc gf J D=>jff hC (l:=l) (ip:=ip) (im:=im) (is:=is) (ic:=ic) (iF:=iF) (m:=m) (h:=H) (hs.mono q) (R.mono q) A hf hm gp gm gs gc gf J D;generalize scnI p s prn f m=SC at*;have tk:∀k,k<p.size.toNat->(topK SC k<SC.getD k 0->bstK SC (k+1)=k/\topK SC (k+1)=SC.getD k 0)/\(¬topK SC k<SC.getD k 0->bstK SC (k+1)=bstK SC k/\topK SC (k+1)=topK SC k):=fun k hk=>by
  unfold topK;rw[if_neg (show ¬k+1=0 by omega)];by_cases k0:k=0
  ·subst k0;have:=sb 0 (by omega);have b1:bstK SC 1=0:=by unfold bstK;show(if SC.getD 0 0<SC.getD 0 0 then 0 else 0)=0;split<;>rfl
   rw[if_pos rfl,b1];exact⟨fun _=>⟨rfl,rfl⟩,fun q=>absurd (show(-1:Int)<SC.getD 0 0 by omega) q⟩
  ·rw[if_neg k0];have bs:bstK SC (k+1)=if SC.getD (bstK SC k) 0<SC.getD k 0 then k else bstK SC k:=rfl
   exact⟨fun q=>by rw[bs,if_pos q];exact⟨rfl,rfl⟩,fun q=>by rw[bs,if_neg q];exact⟨rfl,rfl⟩⟩
 have tn:topK SC p.size.toNat=SC.getD (bstK SC p.size.toNat) 0:=by unfold topK;rw[if_neg (by omega)]
 have t0:topK SC 0= -1:=rfl;have b0:bstK SC 0=0:=rfl;generalize p.size.toNat=n at*;generalize topK SC=TP at*;generalize bstK SC=BK at*;unfold plA at*;refine zf 383 B383 hC ?_;simp only[B383,zB];refine zs1 @jea ?_;refine kal (fun H hH=>?_);have N:H.size=h.size+4:=by rw[hH];exact ze
 have g1:H.get (h.size+1)=some (.cells [.int .i64 0,.int .i64 0,.int .i64 0,.int .i64 0] true 0):=by rw[hH];exact ze
 have g2:H.get (h.size+2)=some (.cells [.int .i64 prn,.int .i64 f,.int .i64 (-1),.int .i64 (m:Nat)] true 0):=by rw[hH];exact ze
 have g3:H.get (h.size+3)=some (.cells [.func 391 [] [.ptr (h.size+2) 0]] true 0):=by rw[hH];exact ze
 have hsH:HSub h H:=by rw[hH];exact zr
 have g0:H.get h.size=some (.cells [.int .i64 p.d,.int .i64 p.o,.int .i64 p.pb,.int .i64 p.w,.int .i64 p.mn,.int .i64 p.mx,.int .i64 p.nz,vp] true 0):=by rw[hH];exact ze
 clear hH;refine kaa (k380 _) (zs ?_);refine jb5 (D:=fun h'=>∃Rl,h'.get (H.size+6)=some (.loop Rl)/\HSub h h'/\h'.get (H.size+5)=some (.defd true)/\H.size+7<=h'.size/\Rl.state=.ready/\Rl.pend=none/\h'.get (h.size+1)=some (.cells [.int .i64 0,.int .i64 0,.int .i64 0,.int .i64 0] true 0)/\
  h'.get (h.size+2)=some (.cells [.int .i64 prn,.int .i64 (f+(BK n:Nat)),.int .i64 (TP n),.int .i64 (m:Nat)] true 0)) ?_ ?_
 ·refine kaq (fun Rl hR=>?_);show ACalls C 388 [.yield (H.size+6),.ptr (H.size+1) 0,.ptr (H.size+4) 0,.ptr H.size 0,.ptr (H.size+2) 0,.ptr (H.size+3) 0] _ _;have rs:Rl.state=.ready:=by rw[hR]
  have rp:Rl.pend=none:=by rw[hR]
  have rb:=jdG rs rp;refine k388 _ _ _ _ _ _ _ (((((((hsH.push _).push _).push _).push _).push _).push _).push _) (by exact ze) (by exact ze) (by exact ze) (by exact ze) (by exact ze) (fun k h'=>k<=n/\h'.get (H.size+6)=some (.loop Rl)/\h'.get (H.size+5)=some (.defd true)/\h'.get (H.size+3)=some (.cells [.int .i64 f] true 0)/\HSub h h'/\H.size+7<=h'.size/\h'.get (h.size+1)=some (.cells [.int .i64 0,.int .i64 0,.int .i64 0,.int .i64 0] true 0)/\
   h'.get (h.size+3)=some (.cells [.func 391 [] [.ptr (h.size+2) 0]] true 0)/\h'.get (h.size+2)=some (.cells [.int .i64 prn,.int .i64 (f+(BK k:Nat)),.int .i64 (TP k),.int .i64 (m:Nat)] true 0)) _ ?_ ?_ ?_ ?_
  ·intro h' q;have qs:=q.size;simp only[Heap.size_push]at qs;rw[t0,b0,show f+((0:Nat):Int)=f by omega];refine⟨by omega,(q.get _ (by simp only[Heap.size_push];omega)).trans (by exact ze),(q.get _ (by simp only[Heap.size_push];omega)).trans (by exact ze),(q.get _ (by simp only[Heap.size_push];omega)).trans (by exact ze),(((((((hsH.push _).push _).push _).push _).push _).push _).push _).trans q,by omega,(q.get _ (by simp only[Heap.size_push];omega)).trans (by exact ze1 g1),(q.get _ (by simp only[Heap.size_push];omega)).trans (by exact ze1 g3),(q.get _ (by simp only[Heap.size_push];omega)).trans (by exact ze1 g2)⟩
  ·rintro k h' ⟨_,_,_,gF,_⟩;exact gF
  ·rintro k h' ⟨hk,hl,hd,gF,hsub,hsz,gz,gcl,gh⟩ hk' hq;have tkk:=tk k hk';have kbk:=fun H2 g=>kb (f+(k:Nat)) (SC.getD k 0) prn (f+(BK k:Nat)) (TP k) (m:Nat) (h.size+2) H2 g;generalize SC.getD k 0=x at*;refine jcp (r:=Rl) (by exact ze1 hl) rs (by rw[hR];rfl) ?_;simp only[congrArg ALoop.nt hR,congrArg ALoop.t hR,congrArg ALoop.params hR,congrArg ALoop.assign hR,congrArg ALoop.body hR];refine zs3 hl rs gcl ?_;refine kad (kbk _ (by exact ze1 gh)) ?_;rintro r h2 hh;by_cases c:TP k<x
   ·rw[if_pos c]at hh;subst hh;obtain⟨q1,q2⟩:=tkk.1 c;refine zs1 hl ?_;exact⟨⟨by omega,by rw[rb],hd,gF,((hsub.put (by omega) _).put (by omega) _).put (by omega) _,by omega,gz,gcl,by rw[q1,q2]⟩,by unfold Keeps;simp only[Heap.size_push];rw[get_put_ne (by omega),get_put_ne (by omega),get_put_ne (by omega)]⟩
   ·rw[if_neg c]at hh;subst hh;obtain⟨q1,q2⟩:=tkk.2 c;refine zs1 hl ?_;exact⟨⟨by omega,by rw[rb],hd,gF,hsub.put (by omega) _,by omega,gz,gcl,by rw[q1,q2];exact gh⟩,by unfold Keeps;simp only[Heap.size_push];rw[get_put_ne (by omega)]⟩
  ·rintro h' ⟨_,hl,hd,gF,hsub,hsz,gz,gcl,gh⟩;exact⟨Rl,hl,hsub,hd,hsz,rs,rp,gz,gh⟩
 ·rintro h' ⟨Rl,hl,hsub,hd,hsz,hst,hpd,gz,gh⟩;refine⟨Rl,hl,by rw[hst];decide,?_⟩;rw[hpd];show jcD _ _ .normal _;rw[tn]at gh;refine zs3 hd gz gh ?_;exact((hsub.put (by omega) _).put (by omega) _).put (by omega) _
theorem GrwI.offP{j:Nat}{b:ABlk}(A:GrwI h0 h v l)(hj:h0.size<=j)(hv:∀i∈v.ids,i≠j):GrwI h0 (h.put j b) v l:=by
 obtain⟨hs,hl,hn,⟨rfl,h2⟩|⟨i,ex,hi,rfl,hg⟩⟩:=A
 ·exact⟨hs.put hj b,hl,hn,.inl ⟨rfl,h2⟩⟩
 ·exact⟨hs.put hj b,hl,hn,.inr ⟨i,ex,hi,rfl,(get_put_ne (hv i (by simp[AV.ids]))).trans hg⟩⟩
theorem jqY{j:Nat}(hv:∀i∈v.ids,j≠i)(hj:j<H.size):(snocH H none v sz cs).get j=H.get j:=by
 unfold snocH;split
 ·have e:=hv _ (by simp[AV.ids];rfl);show((H.put _ .dead).push _).get j=_;rw[get_push_lt (by simpa using hj),get_put_ne e]
 ·show(H.push _).get j=_;rw[get_push_lt hj]
theorem jsD:(snocH H none v sz cs).size=H.size+1:=by rw[jo0];rfl
theorem jqZ(hC:Has C TA){v vp:AV}{p:PlanP}{s:List (Int×Int)}{prn f m:Int}{h:Heap}(hs:SI h v s)(R:RI h vp p.prns)(p64:p.ok64)(hf:In64 f)(hm:In64 m):
  ACalls C 368 [v,plA p vp,.int .i64 prn,.int .i64 f,.int .i64 m] h (fun r h'=>∃v',r=jai v' (jiA p s prn f m)/\HSub h h'/\RI h' v' (if jiA p s prn f m=0 then scnI p s prn f m else[])):=by
 have v1:=R.one;have vc:=hs.cells;have kp:=fun H (q:HSub h H)=>jbH hC (h:=H) (p:=p) ⟨vp,rfl,R.mono q⟩ p64;have kc:=fun H (q:HSub h H)=>jdm hC (h:=H) (p:=p) (prn:=prn) (R.mono q);have ks:=fun H (q:HSub h H)=>jbM hC (h:=H) (hs.mono q);have kl:=fun H=>jbX hC (h:=H) (f:=f) (m:=m);have k1:=fun H i u (g:H.get i=some (.cells (ints [p.err,codeE p prn,sampE s,placE f m]) true u))=>jck hC (h:=H) (l:=[p.err,codeE p prn,sampE s,placE f m]) (v:=.slice i 0 4 (.known 4)) (kah g ⟨rfl,by simp⟩ (by simp)) (by simp);unfold jiA;unfold plA at*;by_cases c:firstE [p.err,codeE p prn,sampE s,placE f m]=0
 ·have z:=jcu c;have ao:=jiB (f:=f) (m:=m) p64 (z _ (by simp)) (z (codeE p prn) (by simp)) (z (sampE s) (by simp)) (z (placE f m) (by simp));obtain⟨A,hf',hm'⟩:=ao;have sz:=jal A.ok.nums;have eM:∃k:Nat,m=(k:Int):=⟨m.toNat,by omega⟩;obtain⟨mn,rfl⟩:=eM;have kF:=fun H (q:HSub h H)=>jeG hC (p:=p) (h:=H) (hs.mono q) v1 A.ok.nums hf' hm';have k380:=fun H=>jfe hC (p:=p) (prn:=prn) (f:=f) (m:=(mn:Nat)) (h:=H) vc v1;have k388:=fun l ip im is ic iF H (q:HSub h H) gp gm gs gc gf J D=>jff hC (l:=l) (ip:=ip) (im:=im) (is:=is) (ic:=ic) (iF:=iF) (m:=mn) (h:=H) (hs.mono q) (R.mono q) A hf' (by omega) gp gm gs gc gf J D
  rw[c]at k1;rw[c,if_neg (show ¬(0:Int)≠0 by decide)];have scl:(scnI p s prn f (mn:Nat)).length=p.size.toNat:=jg8 _ _ _ _ _ _;generalize scnI p s prn f (mn:Nat)=SC at*;have n1:31<=p.size.toNat/\p.size.toNat<=8184:=by omega
  generalize p.size.toNat=n at*;unfold plA at*;cases hB:fitB s p f mn with
  |false=>
   rw[hB]at kF;rw[if_neg (by decide),if_neg (by decide)];refine zf 368 B368 hC ?_;simp only[B368,zB];refine zs ?_;refine kaa (kp _ zr) (zs ?_);refine kaa (kc _ zr) (zs ?_);refine kaa (ks _ zr) (zs ?_);refine kaa (kl _) (zs1 @Heap.wf ?_);refine kaa (k1 _ _ 0 (by refine zs ?_;rfl)) ?_;refine zs ?_;refine kaa (kF _ zr) (zs1 @jai.eq_1 ?_);exact⟨_,rfl,zr,kav⟩
  | true =>
   rw[hB]at kF;rw[if_pos rfl,if_pos rfl];refine zf 368 B368 hC ?_;simp only[B368,zB];refine zs ?_;refine kaa (kp _ zr) (zs ?_);refine kaa (kc _ zr) (zs ?_);refine kaa (ks _ zr) (zs ?_);refine kaa (kl _) (zs1 @Heap.wf ?_);refine kaa (k1 _ _ 0 (by refine zs ?_;rfl)) ?_;refine zs ?_;refine kaa (kF _ zr) (zs ?_);refine kal (fun H hH=>?_);have N:H.size=h.size+15:=by rw[hH];exact ze
   have g13:H.get (h.size+14)=some (.cells [.nilslice] true 0):=by rw[hH];exact ze
   have hsH:HSub h H:=by rw[hH];exact zr
   clear hH;refine kaa (k380 _) (zs ?_);refine jb5 (D:=fun h'=>∃Rl vo,h'.get (H.size+6)=some (.loop Rl)/\HSub h h'/\h'.get (H.size+5)=some (.defd true)/\H.size+7<=h'.size/\Rl.state=.ready/\Rl.pend=none/\h'.get (h.size+14)=some (.cells [vo] true 0)/\GrwI h h' vo SC/\∀i∈vo.ids,H.size+7<i) ?_ ?_
   ·refine kaq (fun Rl hR=>?_);show ACalls C 388 [.yield (H.size+6),.ptr (H.size+1) 0,.ptr (H.size+4) 0,.ptr H.size 0,.ptr (H.size+2) 0,.ptr (H.size+3) 0] _ _;have rs:Rl.state=.ready:=by rw[hR]
    have rp:Rl.pend=none:=by rw[hR]
    have rb:=jdG rs rp;refine k388 _ _ _ _ _ _ _ (((((((hsH.push _).push _).push _).push _).push _).push _).push _) (by exact ze) (by exact ze) (by exact ze) (by exact ze) (by exact ze) (fun k h'=>k<=n/\h'.get (H.size+6)=some (.loop Rl)/\h'.get (H.size+5)=some (.defd true)/\h'.get (H.size+3)=some (.cells [.int .i64 f] true 0)/\HSub h h'/\H.size+7<=h'.size/\
     ∃vo,h'.get (h.size+14)=some (.cells [vo] true 0)/\GrwI h h' vo (SC.take k)/\∀i∈vo.ids,H.size+7<i) _ ?_ ?_ ?_ ?_
    ·intro h' q;have qs:=q.size;simp only[Heap.size_push]at qs;have qq:=(((((((hsH.push (.cells [v] true 0)).push (.cells [.int .i64 p.d,.int .i64 p.o,.int .i64 p.pb,.int .i64 p.w,.int .i64 p.mn,.int .i64 p.mx,.int .i64 p.nz,vp] true 0)).push (.cells [.int .i64 prn] true 0)).push (.cells [.int .i64 f] true 0)).push (.cells [.int .i64 (mn:Nat)] true 0)).push _).push _).trans q;refine⟨by omega,(q.get _ (by simp only[Heap.size_push];omega)).trans (by exact ze),(q.get _ (by simp only[Heap.size_push];omega)).trans (by exact ze),(q.get _ (by simp only[Heap.size_push];omega)).trans (by exact ze),qq,by omega,.nilslice,(q.get _ (by simp only[Heap.size_push];omega)).trans (by exact ze1 g13),kaV qq,by simp[AV.ids]⟩
    ·rintro k h' ⟨_,_,_,gF,_⟩;exact gF
    ·rintro k h' ⟨hk,hl,hd,gF,hsub,hsz,vo,g14,G,gi⟩ hk' hq;simp only[Heap.size_push]at hq;have G2:=G.offP (j:=H.size+6) (b:=.loop {Rl with state:=.busy}) (by omega) (fun i hi=>by have:=gi i hi;omega);have sl:HSub (h'.put (H.size+6) (.loop {Rl with state:=.busy})) ((h'.put (H.size+6) (.loop {Rl with state:=.busy})).push (.cells [.int .i64 (SC.getD k 0)] true 0)):=kac _ _;have ap:=G2.app (x:=SC.getD k 0) _ sl (by rw[List.length_take];omega);have sn:=G2.snoc (x:=SC.getD k 0) sl (by rw[List.length_take];omega);have old:=fun j (hj:j<h'.size+1) (hv:∀i∈vo.ids,j≠i)=>jqY (H:=(h'.put (H.size+6) (.loop {Rl with state:=.busy})).push (.cells [.int .i64 (SC.getD k 0)] true 0)) (v:=vo) (sz:=1) (cs:=ints (SC.take k++[SC.getD k 0])) (j:=j) hv (by simpa using hj)
     have tk1:SC.take k++[SC.getD k 0]=SC.take (k+1):=(jhw (by omega)).symm;rw[tk1]at ap sn old;have szz:=jsD (H:=(h'.put (H.size+6) (.loop {Rl with state:=.busy})).push (.cells [.int .i64 (SC.getD k 0)] true 0)) (v:=vo) (sz:=1) (cs:=ints (SC.take (k+1)));have hk14:∀j,j<h'.size->j≠H.size+6->((h'.put (H.size+6) (.loop {Rl with state:=.busy})).push (.cells [.int .i64 (SC.getD k 0)] true 0)).get j=h'.get j:=fun j h1 h2=>(get_push_lt (by simpa using h1)).trans (get_put_ne h2);have o14:=(old (h.size+14) (by omega) (fun i hi=>by have:=gi i hi;omega)).trans ((hk14 _ (by omega) (by omega)).trans g14)
     have o5:=(old (H.size+5) (by omega) (fun i hi=>by have:=gi i hi;omega)).trans ((hk14 _ (by omega) (by omega)).trans hd);have o3:=(old (H.size+3) (by omega) (fun i hi=>by have:=gi i hi;omega)).trans ((hk14 _ (by omega) (by omega)).trans gF);have o7:=(old (H.size+7) (by omega) (fun i hi=>by have:=gi i hi;omega)).trans (hk14 _ (by omega) (by omega));have o6:=(old (H.size+6) (by omega) (fun i hi=>by have:=gi i hi;omega)).trans (show((h'.put (H.size+6) (.loop {Rl with state:=.busy})).push (.cells [.int .i64 (SC.getD k 0)] true 0)).get (H.size+6)=some (.loop {Rl with state:=.busy})from by exact ze)
     simp only[Heap.size_push,Heap.size_put]at szz ap sn;generalize snocH ((h'.put (H.size+6) (.loop {Rl with state:=.busy})).push (.cells [.int .i64 (SC.getD k 0)] true 0)) none vo 1 (ints (SC.take (k+1)))=HS at*;refine jcp (r:=Rl) (by exact ze1 hl) rs (by rw[hR];rfl) ?_;simp only[congrArg ALoop.nt hR,congrArg ALoop.t hR,congrArg ALoop.params hR,congrArg ALoop.assign hR,congrArg ALoop.body hR];have o14b:HS.get (h.size+1+13)=some (.cells [vo] true 0):=o14;have l14:h.size+1+13<HS.size:=by omega
     have l6:H.size+6<HS.size:=by omega
     refine zs7 hl rs g14 @cont_slice @contB_one ap (zI o14b o6) ?_;exact⟨⟨by omega,by rw[rb],o5,o3,(sn.sub.put (by omega) _).put (by omega) _,by omega,_,rfl,(sn.offP (by omega) (fun i hi=>by simp only[AV.ids,List.mem_singleton]at hi;omega)).offP (by omega) (fun i hi=>by simp only[AV.ids,List.mem_singleton]at hi;omega),fun i hi=>by simp only[AV.ids,List.mem_singleton]at hi;omega⟩,by
      unfold Keeps;simp only[Heap.size_push];rw[get_put_ne (by omega),get_put_ne (by omega)];exact o7⟩
    ·rintro h' ⟨_,hl,hd,gF,hsub,hsz,vo,g14,G,gi⟩;rw[List.take_of_length_le (by omega)]at G;exact⟨Rl,vo,hl,hsub,hd,hsz,rs,rp,g14,G,gi⟩
   ·rintro h' ⟨Rl,vo,hl,hsub,hd,hsz,hst,hpd,g14,G,gi⟩;refine⟨Rl,hl,by rw[hst];decide,?_⟩;rw[hpd];show jcD _ _ .normal _;refine zs3 hd g14 @jai.eq_1 ?_;exact⟨_,rfl,(hsub.put (by omega) _).put (by omega) _,((G.offP (by omega) (fun i hi=>by have:=gi i hi;omega)).offP (by omega) (fun i hi=>by have:=gi i hi;omega)).ri⟩
 ·rw[if_pos c];generalize hE:firstE [p.err,codeE p prn,sampE s,placE f m]=E at*;rw[if_neg c];refine zf 368 B368 hC ?_;simp only[B368,zB];refine zs ?_;refine kaa (kp _ zr) (zs ?_);refine kaa (kc _ zr) (zs ?_);refine kaa (ks _ zr) (zs ?_);refine kaa (kl _) (zs1 @Heap.wf ?_);refine kaa (k1 _ _ 0 (by refine zs ?_;rfl)) ?_;refine zs2 c @jai.eq_1 ?_;exact⟨_,rfl,zr,kav⟩
theorem jhb(hC:Has C TA){v vp:AV}{p:PlanP}{s:List (Int×Int)}{b sh prn f m:Int}{h:Heap}(hs:SI h v s)(R:RI h vp p.prns)(p64:p.ok64)(hf:In64 f)(hm:In64 m):
  ACalls C 370 [v,plA p vp,gA b sh,.int .i64 prn,.int .i64 f,.int .i64 m] h (fun r h'=>r=jdp p b sh s prn f m/\HSub h h'):=by
 have v1:=R.one;have kp:=fun H (q:HSub h H)=>jbH hC (h:=H) (p:=p) ⟨vp,rfl,R.mono q⟩ p64;have kg:=fun H=>jdd hC (h:=H) (b:=b) (s:=sh);have kc:=fun H (q:HSub h H)=>jdm hC (h:=H) (p:=p) (prn:=prn) (R.mono q);have ks:=fun H (q:HSub h H)=>jbM hC (h:=H) (hs.mono q);have kl:=fun H=>jbX hC (h:=H) (f:=f) (m:=m);have k1:=fun H i u (g:H.get i=some (.cells (ints [p.err,gErr b sh,codeE p prn,sampE s,placE f m]) true u))=>jck hC (h:=H) (l:=[p.err,gErr b sh,codeE p prn,sampE s,placE f m]) (v:=.slice i 0 5 (.known 5)) (kah g ⟨rfl,by simp⟩ (by simp)) (by simp)
 unfold jdp;by_cases c:firstE [p.err,gErr b sh,codeE p prn,sampE s,placE f m]=0
 ·have z:=jcu c;have ao:=jiB (f:=f) (m:=m) p64 (z _ (by simp)) (z (codeE p prn) (by simp)) (z (sampE s) (by simp)) (z (placE f m) (by simp));have g0:=z (gErr b sh) (by simp);obtain⟨A,hf',hm'⟩:=ao;have sz:=jal A.ok.nums;have eM:∃k:Nat,m=(k:Int):=⟨m.toNat,by omega⟩;obtain⟨mn,rfl⟩:=eM;have kF:=fun H (q:HSub h H)=>jeG hC (p:=p) (h:=H) (hs.mono q) v1 A.ok.nums hf' hm';have kB:=fun H (q:HSub h H)=>jha hC (h:=H) (m:=mn) (hs.mono q) (R.mono q) A hf' (by omega);have ea:jdo p b sh s prn f mn=if fitB s p f mn=true then 0 else 16:=by unfold jdo;rw[c,if_neg (show ¬(0:Int)≠0 by decide)]
  rw[c]at k1;rw[ea];have dE:detErr p b sh prn=0:=by
   unfold detErr askErr;rw[if_pos A.err,g0,if_pos rfl,if_pos A.hin]
  have sl:(scnI p s prn f (mn:Nat)).length=p.size.toNat:=jg8 _ _ _ _ _ _;have n1:31<=p.size.toNat:=by omega
  have bl:=jiw (scnI p s prn f (mn:Nat)) p.size.toNat;have pwb:0<=(scnI p s prn f (mn:Nat)).getD (bstK (scnI p s prn f (mn:Nat)) p.size.toNat) 0/\(scnI p s prn f (mn:Nat)).getD (bstK (scnI p s prn f (mn:Nat)) p.size.toNat) 0<=2200000000000*mn:=by
   have hi:bstK (scnI p s prn f (mn:Nat)) p.size.toNat<p.size.toNat:=by omega
   generalize bstK (scnI p s prn f (mn:Nat)) p.size.toNat=i at*;have q:=A.pw (f+(i:Nat)) p.size mn;have e:(scnI p s prn f (mn:Nat)).getD i 0=pwK s (sampL p.d prn p.o.toNat) (f+(i:Nat)) p.size mn:=by
    have:=jga (s:=s) (c:=sampL p.d prn p.o.toNat) (f:=f) (w:=p.size) (m:=mn) hi;unfold scnI;rw[Int.toNat_natCast];exact this
   rw[e];omega
  unfold hitI hitA at*;generalize (scnI p s prn f (mn:Nat)).getD (bstK (scnI p s prn f (mn:Nat)) p.size.toNat) 0=pw at*;generalize f+((bstK (scnI p s prn f (mn:Nat)) p.size.toNat:Nat):Int)=at1 at*;have kC:=fun H (q:HSub h H)=>jfy hC (b:=b) (s:=sh) (prn:=prn) (pw:=pw) (m:=(mn:Nat)) (h:=H) (R.mono q) p64 (by unfold In64;omega) (by unfold In64;omega);have cE:jg9 p b sh prn pw mn=.tuple [.bool (claimB (thrI p sh prn) pw mn),.int .i64 0]:=by
   unfold jg9;rw[if_pos dE,if_neg (by omega)]
  rw[cE]at kC;generalize claimB (thrI p sh prn) pw mn=cb at*;unfold plA gA at*;cases hB:fitB s p f mn with
  |false=>
   rw[hB]at kF;rw[if_neg (show ¬(false=true)by decide),if_neg (show ¬(16:Int)=0 by decide)];refine zf 370 B370 hC ?_;simp only[B370,zB];refine zs ?_;refine kaa (kp _ zr) (zs ?_);refine kaa (kg _) (zs ?_);refine kaa (kc _ zr) (zs ?_);refine kaa (ks _ zr) (zs ?_);refine kaa (kl _) (zs1 @Heap.wf ?_);refine kaa (k1 _ _ 0 (by refine zs ?_;rfl)) ?_;refine zs ?_;refine kaa (kF _ zr) (zs ?_);exact zr
  |true=>
   rw[hB]at kF;rw[if_pos rfl,if_pos rfl];refine zf 370 B370 hC ?_;simp only[B370,zB];refine zs ?_;refine kaa (kp _ zr) (zs ?_);refine kaa (kg _) (zs ?_);refine kaa (kc _ zr) (zs ?_);refine kaa (ks _ zr) (zs ?_);refine kaa (kl _) (zs1 @Heap.wf ?_);refine kaa (k1 _ _ 0 (by refine zs ?_;rfl)) ?_;refine zs ?_;refine kaa (kF _ zr) (zs ?_);refine kal (fun H hH=>?_);have g7:H.get h.size=some (.cells [.int .i64 p.d,.int .i64 p.o,.int .i64 p.pb,.int .i64 p.w,.int .i64 p.mn,.int .i64 p.mx,.int .i64 p.nz,vp] true 0):=by rw[hH];exact ze
   have g8:H.get (h.size+1)=some (.cells [.int .i64 b,.int .i64 sh] true 0):=by rw[hH];exact ze
   have g12:H.get (h.size+2)=some (.cells [.int .i64 0,.int .i64 0,.int .i64 0,.int .i64 0] true 0):=by rw[hH];exact ze
   have hsH:HSub h H:=by rw[hH];exact zr
   clear hH;refine kad (kB _ hsH) ?_;rintro r h1 ⟨rfl,s1⟩;have g7:=(s1.get _ (kab g7)).trans g7;have g8:=(s1.get _ (kab g8)).trans g8;have g12:=(s1.get _ (kab g12)).trans g12;have l7:=kab g7;have l8:=kab g8;have l12:=kab g12;have s2:=hsH.trans s1;refine zs3 g7 g8 g12 ?_;refine kad (kC _ (zh s2)) ?_;rintro r h3 ⟨rfl,s3⟩;have l3:=s3.size;simp only[Heap.size_put]at l3;have g12:=(s3.get (h.size+2) (by simp only[Heap.size_put];omega)).trans (show _=some (.cells [.int .i64 prn,.int .i64 at1,.int .i64 pw,.int .i64 (mn:Nat)] true 0)from by exact ze);have l12:=kab g12
   refine zs1 g12 ?_;have s4:HSub h h3:=HSub.trans (zh s2) s3;exact(zh s4)
 ·have ea:jdo p b sh s prn f m=firstE [p.err,gErr b sh,codeE p prn,sampE s,placE f m]:=by unfold jdo;rw[if_pos c]
  rw[ea,if_neg c];clear ea;generalize firstE [p.err,gErr b sh,codeE p prn,sampE s,placE f m]=E at*;unfold plA gA hitA at*;refine zf 370 B370 hC ?_;simp only[B370,zB];refine zs ?_;refine kaa (kp _ zr) (zs ?_);refine kaa (kg _) (zs ?_);refine kaa (kc _ zr) (zs ?_);refine kaa (ks _ zr) (zs ?_);refine kaa (kl _) (zs1 @Heap.wf ?_);refine kaa (k1 _ _ 0 (by refine zs ?_;rfl)) ?_;refine zs1 c ?_;exact zr
def P15:PlanP:=⟨5,2,1,2,10,10,0,[1]⟩
theorem jtm:P15.err=0:=by decide+kernel
theorem P0_ok:PlanOk P15:=jdP jtm
theorem jhc:P15.ok64:=by
 refine⟨?_,?_,?_,?_,?_,?_,?_,?_⟩;all_goals first
  |(show In64 _;unfold In64;decide)
  | (intro x hx; have : x = 1 := by simpa [P15] using hx
     subst this;unfold In64;decide)
theorem juE:detErr P15 8 5 1=0/\detErr P15 8 5 2=18/\detErr ⟨5,2,1,2,10,10,0,[]⟩ 8 5 1=3:=by decide+kernel
theorem jfz:P15.size=62:=by decide+kernel
theorem juF:P15.oth 1=0:=by
 unfold PlanP.oth;show othK _ 1 [1] 1=0;rfl
theorem jsE:boundI P15 5 1=1280*sumI 5 2 1 1+1488:=by
 unfold boundI humI;rw[juF,jfz,Int.add_zero];show 128*10*sumI 5 2 1 1+(3*62*(0+coarI 5)+1)/2=_;have:coarI 5=16:=by decide
 rw[this];omega
theorem juG:0<thrI P15 5 1/\thrI P15 5 1<=330000/\boundI P15 5 1<=32*thrI P15 5 1/\32*(thrI P15 5 1-1)<boundI P15 5 1:=by
 have b:=jsE;have sr:0<=sumI 5 2 1 1/\sumI 5 2 1 1<=8184:=jbB P0_ok.nums 1 1;have e:(2:Int)^(5:Int).toNat=32:=by decide
 unfold thrI;rw[e];generalize boundI P15 5 1=B at*;omega
section
variable {h h' : Heap} {v : AV} {l : List Int}
end
theorem jq0(hb:1<=b){A:Int}(ha: -A<=a/\a<=A): -A<=a/b/\a/b<=A:=by
 have hA:0<=A:=by omega
 constructor
 ·rw[Int.le_ediv_iff_mul_le (by omega)];have:A*1<=A*b:=Int.mul_le_mul_of_nonneg_left hb hA;have e: -A*b= -(A*b):=by grind
  omega
 ·rw[<-Int.lt_add_one_iff,Int.ediv_lt_iff_lt_mul (by omega)];have:(A+1)*1<=(A+1)*b:=Int.mul_le_mul_of_nonneg_left hb (by omega);omega
theorem jnp(hC:Has C TA){p:PlanP}{e:EmitP}{vp vb:AV}{k:Int}{h:Heap}(ok:EmOk p e)(B:RI h vb e.bits)(v1:vp.one=true)(hk: -20000000<=k/\k<=20000000):
  ACalls C 248 [plA p vp,emA e vb,.int .i64 k] h (fun r h'=>r=.int .i64 (bitI p e k)/\h'=h):=by
 refine kae (P:=fun r h'=>r=.int .i64 (bitI p e k)/\HSub h h') ?_ (fun r h' hp=>⟨by rw[hp.1];trivial,hp.2,hp.1,rfl⟩);have b1:=B.one;have blt:=B.lt;have bl:=ok.len;have ba':=ok.en.2.2.2;have pb':=ok.pn.2.2.1;have hB:bitI p e k=if e.bits.length=0 then 0 else e.bits.getD (((k-e.ba)/p.pb)% e.bits.length).toNat 0:=rfl
 have Bm:=fun b c=>B.mono ((kac h b).push c);generalize bitI p e k=X at*;unfold plA emA;obtain⟨pd,o,pb,w,mn,mx,nz,prns⟩:=p;obtain⟨prn,dl,rt,st,ph,amp,ba,bits⟩:=e;dsimp only at*;by_cases c:bits.length=0
 ·rw[if_pos c]at hB;subst hB;refine zf 248 B248 hC ?_;simp only[B248,zB];refine zs2 @B.len c ?_;exact(kac _ _).push _
 ·rw[if_neg c]at hB;have q3:=jq0 (a:=k-ba) (b:=pb) (A:=20000020) (by omega) (by omega);have f1:=fun h=>jcT hC (a:=k-ba) (b:=pb) (h:=h) (by unfold In64;omega) (by omega);generalize (k-ba)/pb=J at*;have f2:=fun h=>jcT hC (a:=J) (b:=(bits.length:Nat)) (h:=h) (by unfold In64;omega) (by omega);have rm:=jt2 (j:=J) (n:=(bits.length:Int));have m1:=Int.emod_nonneg J (show(bits.length:Int)≠0 by omega);have m2:=Int.emod_lt_of_pos J (show(0:Int)<bits.length by omega);obtain⟨m,hm⟩:∃m:Nat,J% (bits.length:Int)=(m:Int):=⟨(J% (bits.length:Int)).toNat,by omega⟩
  rw[hm]at rm m1 m2 hB;rw[Int.toNat_natCast]at hB;have ld:=fun b c=>(Bm b c).load (k:=m) (by omega);have ix:=B.idx (kk:=.i64) (k:=(m:Int)) ⟨by omega,by omega⟩;rw[Int.toNat_natCast]at ix;rw[<-hB]at ld;have nb:¬(bits.length:Int)=0:=by omega
  have pq:(bits.length:Int)*(J/(bits.length:Int))=J-m:=by omega
  refine zf 248 B248 hC ?_;simp only[B248,zB];refine zs2 @B.len nb ?_;refine kaa (f1 _) (zs ?_);refine kaa (f2 _) ?_;have jm:J-(J-(m:Int))=m:=by omega
  refine zs4 pq jm ix ld ?_;exact(kac _ _).push _
theorem jpn(k:Nat)(st:Int):IntKind.u32.wrap ((k:Int)*st)=phI 0 st k:=by
 rw[jke,juv,Int.zero_add,Int.mul_comm st]
theorem jkK(hC:Has C TA){s n:Int}:ACalls C 139 [.int .u32 a,.int .u32 s,.int .i64 n] h (fun r h'=>r=.int .u32 (phI a s n)/\h'=h):=by
 refine zf 139 B139 hC ?_;simp only[B139,zB];refine zs1 @jke ?_;unfold phI;rw[Int.mul_comm s];rw[Int.add_emod_emod]
theorem jq1(hC:Has C TA){v:AV}{l:List (Int×Int)}{st:Int}{h:Heap}(hl:SI h v l)(hll:l.length<=16)(hi:∀x∈l,inS 1048576 x)(hst:U32 st):
  ACalls C 286 [v,.int .u32 st] h (fun r h'=>r=smp (spinK l st l.length)/\h'=h):=by
 refine kae (P:=fun r h'=>r=smp (spinK l st l.length)/\HSub h h') ?_ (fun r h' hp=>⟨by rw[hp.1];exact jcz _,hp.2,hp.1,rfl⟩);have hlt:=hl.lt;have hw:=fun p (ph:Int) (hph:U32 ph) h=>jqE (p:=p) (ph:=ph) (h:=h) hC hph;refine zf 286 B286 hC ?_;simp only[B286,zB];refine zs1 @hl.len ?_;refine jae (fun j t h'=>HSub h h'/\h.size<h'.size/\∃k:Nat,h'.get h.size=some (.cells [.int .i64 (spinK l st k).1,.int .i64 (spinK l st k).2] true 0)/\t 1=.int .u32 st/\t 4=.ptr h.size 0/\t 9=v/\t 10=.int .i64 (l.length:Nat)/\t 11=.int .i64 (k:Nat)/\k<=l.length/\j=l.length-k) (j0:=l.length)
  ⟨kac _ _,by simp,0,get_push_eq rfl,rfl,rfl,rfl,rfl,rfl,by omega,rfl⟩ ?_
 rintro j t h1 ⟨s1,hz,k,gb,e1,e4,e9,e10,e11,hk,hj⟩;refine zs2 e10 e11 ?_;refine kaf (fun c=>?_) (fun c=>?_)
 ·have hk':k<l.length:=by omega
  have hl1:=hl.mono s1;have ld:=hl1.loadA hk';have hin:=hi _ (jcg hk');have sm:je4 (l.getD k (0,0)):=by unfold je4;unfold inS at hin;omega
  have hb:=jkq (st:=st) hi k (by omega);have hb2:=jkq (st:=st) hi (k+1) (by omega);have es:spinK l st (k+1)=addP (spinK l st k) (mixP (l.getD k (0,0)) (carP (phI 0 st k))):=rfl;rw[es]at hb2;have hw:=fun h=>hw (l.getD k (0,0)) (phI 0 st k) (jeb 0 st k) h;simp only[wipeE,if_pos sm]at hw;generalize mixP (l.getD k (0,0)) (carP (phI 0 st k))=w at*;generalize spinK l st k=q at*;generalize l.getD k (0,0)=x at*;obtain⟨wx,wy⟩:=w;obtain⟨qx,qy⟩:=q;obtain⟨xx,xy⟩:=x;unfold inS at hb hb2;unfold addP at hb2;unfold smp at hw ld;have ph:=jpn k st;dsimp only at hb hb2 gb hw ld
  refine zs6 e9 e11 @hl1.idx ld e1 ph ?_;refine kaa (hw _) (zs6 e4 gb e1 e9 e10 e11 ?_);exact⟨_,⟨(zh s1),by omega,k+1,by rw[es];rfl,by simp,by omega,rfl⟩,by omega⟩
 ·have ek:k=l.length:=by omega
  subst ek;generalize spinK l st l.length=q at*;obtain⟨qx,qy⟩:=q;unfold smp;refine zs2 e4 gb ?_;exact(zh s1)
theorem EmOk.per{e:EmitP}(ok:EmOk p e)(n:Int):0<=n-e.sta p (e.pl p n)/\n-e.sta p (e.pl p n)<=8184:=by
 have a:=(st_gt ok (n:=n) (k:=e.pl p n)).2 (Int.le_refl _);have b:=pl_lt (dl:=e.dl) (n:=n) ok.den;have c:=(jkB (dl:=e.dl) (sz:=p.size) (k:=e.pl p n) ok.en.2.1).2;have s:=jal ok.pn;unfold EmitP.sta EmitP.pl at*;omega
theorem jnq{e:EmitP}(ok:EmOk p e){i:Int}(hi:0<=i):chipI p e i=1\/chipI p e i= -1:=by
 have hN:=jbk ok.pn.1;have o':=ok.pn.2.1;have q:0<=i/p.o:=Int.ediv_nonneg hi (by omega);unfold chipI;rw[jif (by omega)];rcases jf2 p.d e.prn (min (i/p.o) ((lenN p.d:Int)-1)).toNat with h|h<;>rw[h]<;>simp
theorem jjE(hC:Has C TA){p:PlanP}{e:EmitP}{vp vb vc:AV}{n:Int}{h:Heap}(ok:EmOk p e)(h65:e.ok64)(B:RI h vb e.bits)(W:RI h vc (codeL p.d e.prn))(v1:vp.one=true)(hn: -10100000<=n/\n<=10100000):
  ACalls C 251 [plA p vp,emA e vb,vc,.int .i64 n] h (fun r h'=>r=smp (atV p e n)/\h'=h):=by
 refine kae (P:=fun r h'=>r=smp (atV p e n)/\HSub h h') ?_ (fun r h' hp=>⟨by rw[hp.1];exact jcz _,hp.2,hp.1,rfl⟩);have b1:=B.one;have w1:=W.one;have am:=ok.en.2.2.1;have pm:=ok.pn.2.2.2.2;have per:=ok.per n;have pb':=ok.plb hn;have kp:=fun h=>jkD hC (vp:=vp) (vb:=vb) (h:=h) ok v1 b1 hn;have ks:=fun h=>jf6 hC (vp:=vp) (vb:=vb) (h:=h) (k:=e.pl p n) ok v1 b1 (by omega);have kb:=fun h1 (q:HSub h h1)=>jnp hC (vp:=vp) (k:=e.pl p n) ok (B.mono q) v1 (by omega);have bb:=ok.bit (e.pl p n);have cp:=jnq ok per.1;have ka:=fun h=>jkK hC (a:=e.ph) (s:=e.st) (n:=e.pl p n) (h:=h)
 have kc:=fun h=>jks hC (h:=h) (jeb e.ph e.st (e.pl p n));have cl:=jkf (jeb e.ph e.st (e.pl p n));have stb:=ok.stb (k:=e.pl p n) (by omega);have o':=ok.pn.2.1;have cll:(codeL p.d e.prn).length=lenN p.d:=jaM _ _;have hN:=jbk ok.pn.1;have Wm:=fun b c d=>W.mono (((kac h b).push c).push d);have wl:=W.len;rw[cll]at wl;unfold atV;generalize e.pl p n=K at*;have sr: -200000000000<=e.sta p K/\e.sta p K<=200000000000:=⟨stb.1,stb.2.1⟩;clear stb;generalize e.sta p K=S at*;have q3:=jq0 (a:=n-S) (b:=p.o) (A:=100000) (by omega) (by omega);have q4:0<=(n-S)/p.o:=Int.ediv_nonneg per.1 (by omega)
 have td:(n-S).tdiv p.o=(n-S)/p.o:=Int.tdiv_eq_ediv_of_nonneg per.1;have ch:chipI p e (n-S)=(codeL p.d e.prn).getD (min ((n-S)/p.o) ((lenN p.d:Int)-1)).toNat 0:=rfl;obtain⟨m,hm⟩:∃m:Nat,min ((n-S)/p.o) ((lenN p.d:Int)-1)=(m:Int):=⟨(min ((n-S)/p.o) ((lenN p.d:Int)-1)).toNat,by omega⟩;rw[hm,Int.toNat_natCast]at ch;have ld:=fun b c d=>(Wm b c d).load (k:=m) (by omega);have ix:=W.idx (kk:=.i64) (k:=(m:Int)) ⟨by omega,by omega⟩;rw[Int.toNat_natCast]at ix;rw[<-ch]at ld;generalize chipI p e (n-S)=x at*;generalize lenN p.d=N at*
 generalize carP (phI e.ph e.st K)=t at*;generalize phI e.ph e.st K=f at*;generalize bitI p e K=b at*;have no:¬p.o=0:=by omega
 have xa: -1000<=e.amp*x/\e.amp*x<=1000:=by rcases cp with q|q<;>subst q<;>omega
 have y1:=jbE xa ⟨cl.1,cl.2.1⟩;have y2:=jbE xa ⟨cl.2.2.1,cl.2.2.2⟩;have z1:=jbE (x:=0-e.amp*x) (B:=1000) (by omega) ⟨cl.1,cl.2.1⟩;have z2:=jbE (x:=0-e.amp*x) (B:=1000) (by omega) ⟨cl.2.2.1,cl.2.2.2⟩;obtain⟨tx,ty⟩:=t;unfold plA emA at kp ks kb|-;unfold smp at kc|-;obtain⟨pd,o,pb,w,mn,mx,nz,prns⟩:=p;obtain⟨prn,dl,rt,st,ph,amp,ba,bits⟩:=e;dsimp only at*;rcases bb with q|q<;>subst q<;>
 ·refine zf 251 B251 hC ?_;simp only[B251,zB];refine zs ?_;refine kaa (kp _) (zs1 wl ?_);refine kaa (ks _) (zs6 td no wl hm ix ld ?_);refine kaa (kb _ zr) (zs ?_);refine kaa (ka _) (zs ?_);refine kaa (kc _) (zs ?_);exact⟨by grind,zr⟩
theorem jpo(p:PlanP)(e:EmitP)(n:Int):madeErr p e n=0\/madeErr p e n=2\/madeErr p e n=3\/madeErr p e n=4\/madeErr p e n=8\/madeErr p e n=18:=by
 have:=jgM p e;unfold madeErr;split
 ·split<;>simp
 ·omega
theorem jt5{e:EmitP}{n:Int}(h:madeErr p e n=0):EmOk p e/\ -10000000<=n/\n<=10000000:=by
 unfold madeErr at h;split at h
 ·rename_i c;split at h
  ·omega
  ·exact⟨jkC c,by omega,by omega⟩
 ·omega
theorem jjb(hC:Has C TA){v w:AV}{p:PlanP}{e:EmitP}{n:Int}{h:Heap}(hp:PlI h v p)(he:EmI h w e)(h64:p.ok64)(h65:e.ok64)(hn:In64 n):
  ACalls C 240 [v,w,.int .i64 n] h (fun r h'=>r=.int .i64 (madeErr p e n)/\h'=h):=by
 refine kae (P:=fun r h'=>r=.int .i64 (madeErr p e n)/\HSub h h') ?_ (fun r h' hp=>⟨by rw[hp.1];trivial,hp.2,hp.1,rfl⟩);have kc:=fun h1 (q:HSub h h1)=>jiu hC (hp.mono q) (he.mono q) h64 h65;have er:=jgM p e;obtain⟨vp,rfl,R⟩:=hp;obtain⟨vb,rfl,B⟩:=he;have v1:=R.one;have b1:=B.one;unfold In64 at hn;unfold madeErr;have sH:∀b c,HSub h ((h.push b).push c):=fun b c=>(kac h b).push c;by_cases c:emitErr p e=0
 ·rw[if_pos c];rw[c]at kc;by_cases c2:n< -10000000\/10000000<n
  ·rw[if_pos c2];refine zf 240 B240 hC ?_;simp only[B240,zB];refine zs ?_;refine kaa (kc _ (sH _ _)) ?_
   (repeat' (first|(refine kaf (fun _=>?_) (fun _=>?_))|(refine zs1 @gV_u ?_)))
   all_goals first
    |(exfalso;omega)
    |exact zr
  ·rw[if_neg c2];have n1:¬n< -10000000:=by omega
   have n2:¬10000000<n:=by omega
   refine zf 240 B240 hC ?_;simp only[B240,zB];refine zs ?_;refine kaa (kc _ (sH _ _)) (zs3 @gV_u @n1 @n2 ?_);exact zr
 ·rw[if_neg c];generalize emitErr p e=E at*;refine zf 240 B240 hC ?_;simp only[B240,zB];refine zs ?_;refine kaa (kc _ (sH _ _)) (zs1 c ?_);exact zr
def atE(p:PlanP)(e:EmitP)(n:Int):AV:=if madeErr p e n=0 then .tuple [smp (atV p e n),.int .i64 0]else .tuple [smp (0,0),.int .i64 (madeErr p e n)]
theorem jsF(p:PlanP)(e:EmitP)(n:Int):(atE p e n).free:=by
 unfold atE;split<;>exact jcX (by simp[smp,AV.free,AV.bel,kar])
theorem jsG(hC:Has C TA){v w:AV}{p:PlanP}{e:EmitP}{n:Int}{h:Heap}(hp:PlI h v p)(he:EmI h w e)(h64:p.ok64)(h65:e.ok64)(hn:In64 n):
  ACalls C 230 [v,w,.int .i64 n] h (fun r h'=>r=atE p e n/\h'=h):=by
 refine kae (P:=fun r h'=>r=atE p e n/\HSub h h') ?_ (fun r h' hp=>⟨by rw[hp.1];exact jsF _ _ _,hp.2,hp.1,rfl⟩);have km:=fun h1 (q:HSub h h1)=>jjb hC (hp.mono q) (he.mono q) h64 h65 hn;have mr:=jpo p e n;unfold atE;obtain⟨vp,rfl,R⟩:=hp;obtain⟨vb,rfl,B⟩:=he;have v1:=R.one;have b1:=B.one;have sH:∀b c d,HSub h (((h.push b).push c).push d):=fun b c d=>((kac h b).push c).push d;by_cases c:madeErr p e n=0
 ·have ok:=jt5 c;rw[if_pos c];rw[c]at km;have kk:=fun h=>jfr hC (h:=h) h64.1 h65.1;rw[ok.1.code]at kk;have ka:=fun vc h2 (q:HSub h h2) (W:RI h2 vc (codeL p.d e.prn))=>jjE hC (vp:=vp) (n:=n) ok.1 h65 (B.mono q) W v1 (by omega);generalize atV p e n=a at*;obtain⟨a1,a2⟩:=a;unfold plA emA at ka;unfold smp at ka|-;dsimp only at ka|-;refine zf 230 B230 hC ?_;simp only[B230,zB];refine zs ?_;refine kaa (km _ (sH _ _ _)) (zs ?_);refine kad (kk _) ?_;rintro r h1 ⟨vc,rfl,s1,W⟩;have s0:=(sH (.cells [.int .i64 p.d,.int .i64 p.o,.int .i64 p.pb,.int .i64 p.w,.int .i64 p.mn,.int .i64 p.mx,.int .i64 p.nz,vp] true 0) (.cells [.int .i64 e.prn,.int .i64 e.dl,.int .i64 e.rt,.int .u32 e.st,.int .u32 e.ph,.int .i64 e.amp,.int .i64 e.ba,vb] true 0) (.cells [.int .i64 0,.int .i64 0] true 0)).trans s1
  have gp:h1.get h.size=some (.cells [.int .i64 p.d,.int .i64 p.o,.int .i64 p.pb,.int .i64 p.w,.int .i64 p.mn,.int .i64 p.mx,.int .i64 p.nz,vp] true 0):=(s1.get _ (by simp only[Heap.size_push];omega)).trans (by exact ze);have ge:h1.get (h.size+1)=some (.cells [.int .i64 e.prn,.int .i64 e.dl,.int .i64 e.rt,.int .u32 e.st,.int .u32 e.ph,.int .i64 e.amp,.int .i64 e.ba,vb] true 0):=(s1.get _ (by simp only[Heap.size_push];omega)).trans (by exact ze);have gz:h1.get (h.size+2)=some (.cells [.int .i64 0,.int .i64 0] true 0):=(s1.get _ (by simp)).trans (by exact ze)
  have hz:h.size+2<h1.size:=by have:=s1.size;simp only[Heap.size_push]at this;omega
  refine zs3 @jai.eq_1 gp ge ?_;refine kaa (ka vc _ s0 W) (zs1 gz ?_);exact(zh s0)
 ·rw[if_neg c];generalize madeErr p e n=E at*;unfold smp;refine zf 230 B230 hC ?_;simp only[B230,zB];refine zs ?_;refine kaa (km _ (sH _ _ _)) (zs1 c ?_);exact zr
def E5:EmitP:=⟨1,5,0,0,0,10,0,[]⟩
theorem juH:emitErr P15 E5=0:=by decide+kernel
theorem E5_64:E5.ok64:=by unfold EmitP.ok64 E5 In64 U32;simp
def sgnL:List Nat:=[1,1,1,1,1,1,1,1,1,1,0,0,0,0,0,0,1,1,1,1,0,0,1,1,1,1,1,1,0,0,1,1,0,0,1,1,0,0,0,0,0,0,0,0,1,1,0,0,0,0,1,1,0,0,1,1,1,1,0,0,0,0]
def ringV(i:Nat):Int×Int:=if i<5 then(0,0)else(if sgnL.getD ((i-5)% 62) 0=1 then-100 else 100,0)
def ringL(k:Nat):List (Int×Int):=(List.range k).map ringV++List.replicate (200-k) (0,0)
theorem jsH:((List.range 200).all fun i=>decide (i<5)||(decide ((atV P15 E5 ((i:Nat):Int)).1<0)==decide (sgnL.getD ((i-5)% 62) 0=1)))=true:=by decide+kernel
theorem jt6(h1:5<=i)(h2:i<200):(atV P15 E5 ((i:Nat):Int)).1<0↔sgnL.getD ((i-5)% 62) 0=1:=by
 have q:=List.all_eq_true.1 jsH i (List.mem_range.2 h2);rw[decide_eq_false (show ¬i<5 by omega),Bool.false_or,beq_iff_eq]at q;have:=Bool.eq_iff_iff.1 q;simpa using this
theorem jl2{k:Nat}(h:k<=200):(ringL k).length=200:=by simp[ringL];omega
theorem jq2{k:Nat}(h:k<200):(ringL k).set k (ringV k)=ringL (k+1):=by
 unfold ringL;rw[List.set_append_right _ _ (by simp),List.length_map,List.length_range,Nat.sub_self,show 200-k=(200-(k+1))+1 by omega,List.replicate_succ,List.set_cons_zero,List.range_succ,List.map_append,List.append_assoc];rfl
theorem jq3{k:Nat}(h:k<200):(ringL k).getD k (0,0)=(0,0):=by
 unfold ringL;rw[List.getD_eq_getElem?_getD,List.getElem?_append_right (by simp),List.length_map,List.length_range,Nat.sub_self,List.getElem?_replicate];split<;>rfl
theorem ring5:ringL 5=List.replicate 200 (0,0):=by decide+kernel
def RG:List (Int×Int):=ringL 200
theorem jq4:bstK (scnI P15 RG 1 0 2) 62=5/\(scnI P15 RG 1 0 2).getD 5 0=76880000:=by decide+kernel
theorem jtn:jdo P15 8 5 RG 1 0 2=0/\jdo P15 8 5 RG 2 0 1=18:=by decide+kernel
theorem jiC{a:Int}:∀{l:List (Int×Int)} {k:Nat},k<l.length->(smps l).set (k*2) (.int .i64 a)=smps (l.set k (a,(l.getD k (0,0)).2))
 |[],_,h=>by simp at h
 |x::l,0,_=>by simp[smps]
 |x::l,k+1,h=>by
  have ih:=jiC (a:=a) (l:=l) (k:=k) (by simpa using h);have e:(k+1)*2=k*2+1+1:=by omega
  have s1:smps (x::l)=.int .i64 x.1:: .int .i64 x.2::smps l:=by simp[smps]
  rw[e,s1,List.set_cons_succ,List.set_cons_succ,ih,List.set_cons_succ,List.getD_cons_succ];simp[smps]
theorem jhd(hC:Has C TA):ACalls C 373 [] h (fun r h'=>HSub h h'/\∃vp,r=plA P15 vp/\RI h' vp P15.prns):=by
 refine zf 373 B373 hC ?_;simp only[B373,zB];refine zs ?_;refine⟨zr,_,rfl,kah (wr:=true) (u:=0) (l:=[1]) (by refine zs ?_;rfl) ⟨rfl,by decide⟩ (by decide)⟩
theorem jhe(hC:Has C TA):ACalls C 374 [] h (fun r h'=>r=gA 8 5/\h'=h):=by
 refine kae (P:=fun r h'=>r=gA 8 5/\HSub h h') ?_ (fun r h' hp=>⟨by rw[hp.1];exact⟨trivial,trivial,trivial⟩,hp.2,hp.1,rfl⟩);refine zf 374 B374 hC ?_;simp only[B374,zB];refine zs ?_;exact⟨rfl,zr⟩
theorem jiD(hC:Has C TA):ACalls C 372 [] h (fun r h'=>HSub h h'/\SI h' r RG):=by
 have kp:=fun H=>jhd hC (h:=H);have ka:∀vp H (_R:RI H vp P15.prns) (n:Int) (_hn:In64 n),ACalls C 230 [plA P15 vp,.agg [.int .i64 1,.int .i64 5,.int .i64 0,.int .u32 0,.int .u32 0,.int .i64 10,.int .i64 0,.nilslice],.int .i64 n] H (fun r h'=>r=atE P15 E5 n/\h'=H):=fun vp H (R:RI H vp P15.prns) (n:Int) (hn:In64 n)=>jsG hC (v:=plA P15 vp) (w:=emA E5 .nilslice) (p:=P15) (e:=E5) (n:=n) (h:=H) ⟨vp,rfl,R⟩ ⟨.nilslice,rfl,kav⟩ jhc E5_64 hn;have hz:=jbv (p:=(0,0)) (n:=200);simp only at hz;have atE5:∀k:Nat,k<200->atE P15 E5 (k:Nat)=.tuple [smp (atV P15 E5 (k:Nat)),.int .i64 0]:=fun k hk=>by
  have me:madeErr P15 E5 (k:Nat)=0:=by unfold madeErr;rw[juH,if_pos rfl,if_neg (by omega)]
  unfold atE;rw[if_pos me]
 have rl:=fun k (hk:k<=200)=>jl2 hk;have rg:=fun k (hk:k<200)=>jq3 hk;have rs:=fun k (hk:k<200)=>jq2 hk;have ra:=fun k (h1:5<=k) (hk:k<200)=>jt6 h1 hk;have r5:=ring5;refine zf 372 B372 hC ?_;simp only[B372,zB];refine zs1 hz ?_;refine jae (fun j t H=>HSub h H/\h.size+2<=H.size/\t 1=.slice h.size 0 200 (.known 200)/\t 2=.ptr (h.size+1) 0/\H.get (h.size+1)=some (.cells [.int .i64 1,.int .i64 5,.int .i64 0,.int .u32 0,.int .u32 0,.int .i64 10,.int .i64 0,.nilslice] true 0)/\∃k:Nat,H.get h.size=some (.cells (smps (ringL k)) true 0)/\t 3=.int .i64 (k:Nat)/\5<=k/\k<=200/\j=200-k) (j0:=195)
  ⟨zr,by simp,rfl,rfl,by exact ze,5,by rw[r5];exact ze,rfl,by omega,by omega,rfl⟩ ?_
 rintro j t H ⟨sH,hz2,e1,e2,ge,k,gk,e3,hk5,hk,hj⟩;refine zs2 e1 e3 ?_;refine kaf (fun c1=>?_) (fun c1=>?_)
 ·have hk':k<200:=by omega
  have atk:=atE5 k hk';have rak:=ra k hk5 hk';have rvk:ringV k=(if sgnL.getD ((k-5)% 62) 0=1 then-100 else 100,0):=by unfold ringV;rw[if_neg (by omega)]
  have rlk:=rl k (by omega);have set1:=jiC (a:=100) (l:=ringL k) (k:=k) (by omega);have set2:=jiC (a:= -100) (l:=(ringL k).set k (100,0)) (k:=k) (by rw[List.length_set];omega);rw[rg k hk']at set1;have gs:((ringL k).set k (100,0)).getD k (0,0)=(100,0):=by rw[List.getD_eq_getElem?_getD,List.getElem?_set_self (by omega)];rfl
  rw[gs,List.set_set]at set2;have rsk:=rs k hk';rw[rvk]at rsk;have kat:=fun vp H2 (R:RI H2 vp P15.prns)=>ka vp H2 R (k:Nat) (by unfold In64;omega);rw[atk]at kat;generalize atV P15 E5 (k:Nat)=x at*;obtain⟨x1,x2⟩:=x;unfold smp at kat;dsimp only at*;refine zs2 e2 ge ?_;refine kad (kp _) ?_;rintro r h1 ⟨s1,vp,rfl,R1⟩;have l1:=s1.size;simp only[Heap.size_reserve]at l1;have g1:=(s1.get (h.size+1) (by simp only[Heap.size_reserve];omega)).trans (show _=_ from(Heap.get_reserve ..).trans ge);have g0:=(s1.get h.size (by simp only[Heap.size_reserve];omega)).trans (show _=_ from(Heap.get_reserve ..).trans gk)
  have gchk:h1.get (h.size+1)=H.get (h.size+1):=g1.trans ge.symm;refine zs3 e2 e3 gchk ?_;refine kaa (kat _ _ R1) ?_;have gn:h1.get (H.size+7)=none:=(s1.get _ (by simp only[Heap.size_reserve];omega)).trans (H.wf _ (by omega));have sl:(smps (ringL k)).length=400:=by rw[jaV,rlk]
  have hb:HSub h h1:=(sH.reserve 10).trans s1;have sl2:(smps ((ringL k).set k (100,0))).length=400:=by rw[jaV,List.length_set,rlk]
  refine zs6 gn e1 e3 g0 sl set1 ?_;refine kaf (fun c2=>?_) (fun c2=>?_)
  ·rw[if_pos (rak.1 c2)]at rsk;rw[rsk]at set2;refine zs4 e1 e3 sl2 set2 ?_;exact⟨_,⟨(hb.put (by omega) _).put (by omega) _,by omega,e2,g1,k+1,rfl,by omega,by omega,by omega,rfl⟩,by omega⟩
  ·rw[if_neg (fun q=>c2 (rak.2 q))]at rsk;rw[rsk];refine zs1 e3 ?_;exact⟨_,⟨(hb.put (by omega) _).put (by omega) _,by omega,e1,e2,g1,k+1,rfl,by omega,by omega,by omega,rfl⟩,by omega⟩
 ·obtain rfl:k=200:=by omega
  refine zs1 e1 ?_;exact⟨sH,kaM gk ⟨(rl 200 (by omega)).symm,by omega⟩ (Nat.le_refl _)⟩
theorem eqs4{c:Int}:eqsA false [(0,false),(1,false),(2,false),(3,false)] (.agg [.int .i64 a,.int .i64 b,.int .i64 c,.int .i64 d]) (.agg [.int .i64 a,.int .i64 b,.int .i64 c,.int .i64 d])=some (.bool true):=by
 simp[eqsA,jaB]
theorem jq5{T:Int}(h:0<T/\T<=330000):claimB T 76880000 2=decide (T<6200):=by
 unfold claimB;rw[Bool.eq_iff_iff,decide_eq_true_eq,decide_eq_true_eq];constructor
 ·intro q;rcases Int.lt_or_le T 6200 with c|c
  ·exact c
  ·have:=Int.mul_le_mul c c (by omega) (by omega);omega
 ·intro q;have:=Int.mul_le_mul (show T<=6199 by omega) (show T<=6199 by omega) (by omega) (by omega);omega
theorem jkL(hC:Has C TA):ACalls C 367 [] h (fun r h'=>r=.bool true/\h'=h):=by
 refine kae (P:=fun r h'=>r=.bool true/\HSub h h') ?_ (fun r h' hp=>⟨by rw[hp.1];trivial,hp.2,hp.1,rfl⟩);have kr:=fun H=>jiD hC (h:=H);have kp:=fun H=>jhd hC (h:=H);have kg:=fun H=>jhe hC (h:=H);have ka:=fun prn m v vp H (S:SI H v RG) (R:RI H vp P15.prns) (hm:In64 m)=>jhb hC (b:=8) (sh:=5) (prn:=prn) (f:=0) (m:=m) S R jhc (by unfold In64;omega) hm;have kt:=fun vp H (R:RI H vp P15.prns)=>jeI hC (h:=H) (b:=8) (s:=5) (prn:=1) R jhc;have pt:=juG;have o1:jdp P15 8 5 RG 1 0 2=.tuple [hitA 1 5 76880000 2,.bool (decide (thrI P15 5 1<6200)),.int .i64 0]:=by
  have e62:P15.size.toNat=62:=by rw[jfz];rfl
  unfold jdp hitI;rw[if_pos jtn.1,e62,jq4.1,jq4.2,jq5 ⟨pt.1,pt.2.1⟩];rfl
 have o2:jdp P15 8 5 RG 2 0 1=.tuple [hitA 0 0 0 0,.bool false,.int .i64 18]:=by
  unfold jdp;rw[jtn.2,if_neg (by decide)]
 rw[if_pos juE.1]at kt;have ka1:=fun v vp H S R=>ka 1 2 v vp H S R (by unfold In64;omega);have ka2:=fun v vp H S R=>ka 2 1 v vp H S R (by unfold In64;omega);rw[o1]at ka1;rw[o2]at ka2;clear ka o1 o2 pt;generalize thrI P15 5 1=T at*;unfold hitA tup2 gA at*;have ez:(decide (T<6200)==decide (T<6200))=true:=by simp
 refine zf 367 B367 hC ?_;simp only[B367,zB];refine zs ?_;refine kad (kr _) ?_;rintro r h1 ⟨s1,S1⟩;refine zs ?_;refine kad (kp _) ?_;rintro r2 h2 ⟨s2,vp,rfl,R2⟩;refine zs ?_;refine kaa (kg _) (zs ?_);refine kad (ka1 _ _ _ (S1.mono s2) R2) ?_;rintro r3 h3 ⟨rfl,s3⟩;have s13:=(s1.trans s2).trans s3;refine zs ?_;refine kad (kp _) ?_;rintro r4 h4 ⟨s4,vp4,rfl,R4⟩;have g4:=s4.get h3.size (by simp);rw[get_push_eq rfl]at g4;refine zs ?_;refine kaa (kg _) (zs ?_);refine kaa (kt _ _ R4) (zs ?_);refine kad (kr _) ?_;rintro r5 h5 ⟨s5,S5⟩;have g5:=(s5.get _ (kab g4)).trans g4
 refine zs ?_;refine kad (kp _) ?_;rintro r6 h6 ⟨s6,vp6,rfl,R6⟩;have g6:=(s6.get _ (kab g5)).trans g5;refine zs ?_;refine kaa (kg _) (zs ?_);refine kad (ka2 _ _ _ (S5.mono s6) R6) ?_;rintro r7 h7 ⟨rfl,s7⟩;have g7:=(s7.get _ (kab g6)).trans g6;have l7:=kab g7;have eq1:eqsA false [(0,false),(1,false),(2,false),(3,false)] (.agg [.int .i64 1,.int .i64 5,.int .i64 76880000,.int .i64 2]) (.agg [.int .i64 1,.int .i64 5,.int .i64 76880000,.int .i64 2])=some (.bool true):=eqs4;refine zs3 g7 ez eq1 ?_;exact(zh ((s13.trans ((kac _ _).trans (s4.trans (s5.trans (s6.trans s7)))))))
def clmW(p:PlanP)(sh prn:Int)(s:List (Int×Int))(a:Int):Bool:=claimB (thrI p sh prn) (wpI s (sampL p.d prn p.o.toNat) a) 1
def cfmK(p:PlanP)(sh prn:Int)(s:List (Int×Int))(x:Int):Nat->Bool
 |0=>false
 |j+1=>cfmK p sh prn s x j||(decide (0<=x-p.o+(j:Nat)/\x-p.o+(j:Nat)+p.size<=s.length)&&clmW p sh prn s (x-p.o+(j:Nat)))
def cntK(p:PlanP)(sh prn:Int)(s:List (Int×Int))(f m:Int):Nat->Nat
 |0=>0
 |k+1=>cntK p sh prn s f m k+if cfmK p sh prn s (f+(m+(k:Nat))*p.size) (2*p.o+1).toNat=true then 1 else 0
theorem jq6(p:PlanP)(sh prn:Int)(s:List (Int×Int))(f m:Int):∀k,cntK p sh prn s f m k<=k
 |0=>Nat.le_refl _
 |k+1=>by have:=jq6 p sh prn s f m k;unfold cntK;split<;>omega
theorem cfm_s(p:PlanP)(sh prn:Int)(s:List (Int×Int))(x:Int)(j:Nat):cfmK p sh prn s x (j+1)=(cfmK p sh prn s x j||(decide (0<=x-p.o+(j:Nat)/\x-p.o+(j:Nat)+p.size<=s.length)&&clmW p sh prn s (x-p.o+(j:Nat)))):=rfl
theorem job{p:PlanP}{sh prn:Int}{s:List (Int×Int)}{x:Int}{j:Nat}(h:cfmK p sh prn s x j=true):∀n,j<=n->cfmK p sh prn s x n=true
 |0,hn=>by
  obtain rfl:j=0:=by omega
  exact h
 | n + 1, hn => by
  rcases Nat.lt_or_ge n j with c|c
  ·obtain rfl:j=n+1:=by omega
   exact h
  ·rw[cfm_s,job h n c,Bool.true_or]
theorem jq7{p:PlanP}{sh prn:Int}{s:List (Int×Int)}{x:Int}{j:Nat}(h:s.length<x-p.o+(j:Nat)+p.size):∀n,j<=n->cfmK p sh prn s x n=cfmK p sh prn s x j
 |0,hn=>by
  obtain rfl:j=0:=by omega
  rfl
 | n + 1, hn => by
  rcases Nat.lt_or_ge n j with c|c
  ·obtain rfl:j=n+1:=by omega
   rfl
  ·rw[cfm_s,decide_eq_false (by omega),Bool.false_and,Bool.or_false];exact jq7 h n c
def jcN(p:PlanP)(b sh:Int)(s:List (Int×Int))(prn f m n:Int):Int:=if firstE [p.err,gErr b sh,codeE p prn,sampE s,placE f m]≠0 then firstE [p.err,gErr b sh,codeE p prn,sampE s,placE f m]else if n<0\/100<n then 2 else 0
def jfA(p:PlanP)(b sh:Int)(s:List (Int×Int))(prn f m n:Int):AV:=.tuple [.int .i64 (if jcN p b sh s prn f m n=0 then(cntK p sh prn s f m n.toNat:Nat)else 0),.int .i64 (jcN p b sh s prn f m n)]
theorem jhf(hC:Has C TA){v vp:AV}{p:PlanP}{s:List (Int×Int)}{b sh prn f pw m n:Int}{h:Heap}(hs:SI h v s)(R:RI h vp p.prns)(p64:p.ok64)(hf:In64 f)(hm:In64 m)(hn:In64 n):
  ACalls C 399 [v,plA p vp,gA b sh,hitA prn f pw m,.int .i64 n] h (fun r h'=>r=jfA p b sh s prn f m n/\HSub h h'):=by
 have v1:=R.one;have kp:=fun H (q:HSub h H)=>jbH hC (h:=H) (p:=p) ⟨vp,rfl,R.mono q⟩ p64;have kg:=fun H=>jdd hC (h:=H) (b:=b) (s:=sh);have kc:=fun H (q:HSub h H)=>jdm hC (h:=H) (p:=p) (prn:=prn) (R.mono q);have ks:=fun H (q:HSub h H)=>jbM hC (h:=H) (hs.mono q);have kl:=fun H=>jbX hC (h:=H) (f:=f) (m:=m);have k1:=fun H i u (g:H.get i=some (.cells (ints [p.err,gErr b sh,codeE p prn,sampE s,placE f m]) true u))=>jck hC (h:=H) (l:=[p.err,gErr b sh,codeE p prn,sampE s,placE f m]) (v:=.slice i 0 5 (.known 5)) (kah g ⟨rfl,by simp⟩ (by simp)) (by simp)
 by_cases c:firstE [p.err,gErr b sh,codeE p prn,sampE s,placE f m]=0/\¬(n<0\/100<n)
 ·obtain⟨c,cn⟩:=c;have ee:jcN p b sh s prn f m n=0:=by unfold jcN;rw[c,if_neg (by decide),if_neg cn]
  unfold jfA;rw[ee,if_pos rfl];have z:=jcu c;have ao:=jiB (f:=f) (m:=m) p64 (z _ (by simp)) (z (codeE p prn) (by simp)) (z (sampE s) (by simp)) (z (placE f m) (by simp));have g0:=z (gErr b sh) (by simp);obtain⟨A,hf',hm'⟩:=ao;have sz:=jal A.ok.nums;have or:=A.ok.nums.2.1;have hlt:=hs.len;have hl2:=A.len;rw[c]at k1;have kP:=fun H=>jcA hC (p:=p) (vp:=vp) (h:=H) v1 A.ok.nums;have dE:detErr p b sh prn=0:=by
   unfold detErr askErr;rw[if_pos A.err,g0,if_pos rfl,if_pos A.hin]
  have W:∀a,-2000000<=a/\a<=2000000->∃x1 x2 y:Int,(∀H,HSub h H->ACalls C 275 [v,.int .i64 p.d,.int .i64 p.o,.int .i64 prn,.int .i64 a] H (fun r h'=>r=.tuple [.agg [.int .i64 x1,.int .i64 x2],.int .i64 0]/\h'=H))/\(∀H,ACalls C 389 [.agg [.int .i64 x1,.int .i64 x2]] H (fun r h'=>r=.int .i64 y/\h'=H))/\
    (∀H,HSub h H->ACalls C 313 [plA p vp,gA b sh,.int .i64 prn,.int .i64 y,.int .i64 1] H (fun r h'=>r=.tuple [.bool (clmW p sh prn s a),.int .i64 0]/\HSub H h')):=fun a ha=>by
   have q:=(jix (A.win a)).2;refine⟨_,_,_,fun H z=>?_,fun H=>jf8 hC (p:=sumP s (sampL p.d prn p.o.toNat) a) (h:=H),fun H z=>?_⟩
   ·have bE:bsumE s p.d p.o prn a=.tuple [smp (sumP s (sampL p.d prn p.o.toNat) a),.int .i64 0]:=by unfold bsumE;rw[if_pos (A.bank ha)]
    have k:=jqJ hC (h:=H) (a:=a) (hs.mono z) A.p64.1 A.p64.2.1 (A.p64.2.2.2.2.2.2.2 _ A.hin) (by unfold In64;omega);rw[bE]at k;exact k
   ·have k:=jfy hC (b:=b) (s:=sh) (prn:=prn) (pw:=powP (sumP s (sampL p.d prn p.o.toNat) a)) (m:=1) (h:=H) (R.mono z) p64 (by unfold In64;omega) (by unfold In64;omega);have e:jg9 p b sh prn (powP (sumP s (sampL p.d prn p.o.toNat) a)) 1=.tuple [.bool (clmW p sh prn s a),.int .i64 0]:=by
     unfold jg9;rw[if_pos dE,if_neg (by omega)];rfl
    rw[e]at k;exact k
  have eN:∃k:Nat,n=(k:Int):=⟨n.toNat,by omega⟩;obtain⟨N,rfl⟩:=eN;have eM:∃k:Nat,m=(k:Int):=⟨m.toNat,by omega⟩;obtain⟨mn,rfl⟩:=eM;rw[Int.toNat_natCast];have cs:=fun k=>show cntK p sh prn s f mn (k+1)=cntK p sh prn s f mn k+(if cfmK p sh prn s (f+(mn+(k:Nat))*p.size) (2*p.o+1).toNat=true then 1 else 0)from rfl
  have c0:cntK p sh prn s f mn 0=0:=rfl;have cle:=jq6 p sh prn s f mn;generalize cntK p sh prn s f mn=CN at*;unfold plA gA hitA at*;refine zf 399 B399 hC ?_;simp only[B399,zB];refine zs ?_;refine kaa (kp _ zr) (zs ?_);refine kaa (kg _) (zs ?_);refine kaa (kc _ zr) (zs ?_);refine kaa (ks _ zr) (zs ?_);refine kaa (kl _) (zs1 @Heap.wf ?_);refine kaa (k1 _ _ 0 (by refine zs ?_;rfl)) ?_;have cn1:¬(N:Int)<0:=by omega
  have cn2:¬(100:Int)<(N:Int):=by omega
  refine zs3 cn1 cn2 @gV_u ?_;refine kal (fun H hH=>?_);have g6:H.get h.size=some (.cells [.int .i64 p.d,.int .i64 p.o,.int .i64 p.pb,.int .i64 p.w,.int .i64 p.mn,.int .i64 p.mx,.int .i64 p.nz,vp] true 0):=by rw[hH];exact ze
  have g7:H.get (h.size+1)=some (.cells [.int .i64 b,.int .i64 sh] true 0):=by rw[hH];exact ze
  have g8:H.get (h.size+2)=some (.cells [.int .i64 prn,.int .i64 f,.int .i64 pw,.int .i64 (mn:Nat)] true 0):=by rw[hH];exact ze
  have hsH:HSub h H:=by rw[hH];exact zr
  clear hH;refine kaa (kP _) (zs ?_);refine jae (fun j t h'=>HSub H h'/\t 0=v/\t 4=.int .i64 (N:Nat)/\t 6=.ptr h.size 0/\t 7=.ptr (h.size+1) 0/\t 8=.ptr (h.size+2) 0/\t 13=.int .i64 p.size/\t 50=.int .i64 (N:Nat)/\∃k:Nat,t 14=.int .i64 (CN k:Nat)/\t 51=.int .i64 (k:Nat)/\k<=N/\j=N-k) (j0:=N)
   ⟨kag _,rfl,rfl,rfl,rfl,rfl,rfl,rfl,0,by rw[c0];rfl,rfl,by omega,rfl⟩ ?_
  rintro j t h' ⟨sH,e0,e4,e6,e7,e8,e13,e50,k,e14,e51,hk,hj⟩;refine zs2 e50 e51 ?_;refine kaf (fun ck=>?_) (fun ck=>?_)
  ·have hk':k<N:=by omega
   have csk:=cs k;have clk:=cle k;have g6':=(sH.get _ (kab g6)).trans g6;have g7':=(sH.get _ (kab g7)).trans g7;have g8':=(sH.get _ (kab g8)).trans g8;have m1:((mn:Nat)+(k:Nat):Int)*p.size<=115*8184:=Int.mul_le_mul (by omega) sz.2.1 (by omega) (by omega);have m0:(1:Int)*31<=((mn:Nat)+(k:Nat):Int)*p.size:=Int.mul_le_mul (by omega) sz.1 (by omega) (by omega);generalize hX:f+((mn:Nat)+(k:Nat):Int)*p.size=X at*;have o1:([.int .i64 p.d,.int .i64 p.o,.int .i64 p.pb,.int .i64 p.w,.int .i64 p.mn,.int .i64 p.mx,.int .i64 p.nz,vp]:List AV)[1]? =some (.int .i64 p.o):=rfl
   have o0:([.int .i64 p.d,.int .i64 p.o,.int .i64 p.pb,.int .i64 p.w,.int .i64 p.mn,.int .i64 p.mx,.int .i64 p.nz,vp]:List AV)[0]? =some (.int .i64 p.d):=rfl;have eT:(((2*p.o+1).toNat:Nat):Int)=2*p.o+1:=by omega
   refine zs7 e6 e8 e13 e51 @g6' @g8' (zI o1 @hX) ?_;have b2:∀x y:Int,bsumE s p.d p.o prn x=bsumE s p.d p.o prn x:=fun _ _=>rfl;have wK:=cfm_s p sh prn s X;have wE:=fun j h n hn=>jq7 (p:=p) (sh:=sh) (prn:=prn) (s:=s) (x:=X) (j:=j) h n hn;have wM:=fun j h n hn=>job (p:=p) (sh:=sh) (prn:=prn) (s:=s) (x:=X) (j:=j) h n hn;have w0:cfmK p sh prn s X 0=false:=rfl;generalize cfmK p sh prn s X=CF at*;generalize hTn:(2*p.o+1).toNat=TN at*;refine jae (fun j t h'=>HSub H h'/\t 0=v/\t 4=.int .i64 (N:Nat)/\t 6=.ptr h.size 0/\t 7=.ptr (h.size+1) 0/\t 8=.ptr (h.size+2) 0/\t 13=.int .i64 p.size/\t 50=.int .i64 (N:Nat)/\t 14=.int .i64 (CN k:Nat)/\t 51=.int .i64 (k:Nat)/\t 16=.int .i64 X/\∃i:Nat,t 17=.int .i64 (X-p.o+(i:Nat))/\CF i=false/\i<=TN/\j=TN-i) (j0:=TN)
    ⟨sH,e0,e4,e6,e7,e8,e13,e50,e14,e51,rfl,0,congrArg (AV.int .i64) (by omega),w0,by omega,rfl⟩ ?_
   clear sH e0 e4 e6 e7 e8 e13 e50 e14 e51 g6' g7' g8';rintro j2 t h' ⟨sH,e0,e4,e6,e7,e8,e13,e50,e14,e51,e16,i,e17,hcf,hi,hj2⟩;have g6':=(sH.get _ (kab g6)).trans g6;have g7':=(sH.get _ (kab g7)).trans g7;have g8':=(sH.get _ (kab g8)).trans g8;have sl:=((hs.mono hsH).mono sH).len;by_cases q1:X-p.o+(i:Nat)<=X+p.o
   ·by_cases q2:X-p.o+(i:Nat)+p.size<=(s.length:Nat)
    ·have hi':i<TN:=by omega
     have z:=W (X-p.o+(i:Nat)) (by omega);obtain⟨x1,x2,y,k1',k2',k3'⟩:=z;have kSi:=k1' h' (hsH.trans sH);have wKi:=wK i;rw[hcf,Bool.false_or,decide_eq_true (by omega),Bool.true_and]at wKi;rw[<-wKi]at k3';have l6:=kab g6';have l7:=kab g7';have l8:=kab g8';refine zs7 e0 e6 e8 e13 e16 e17 (zI @g6' (zI @g8' (zI o0 (zI o1 (zI sl (zI @gV_u (zI @q1 q2))))))) ?_;refine kaa kSi (zs6 e6 e7 e8 @g6' @g7' @g8' ?_);refine kaa (k2' _) (zs ?_);refine kad (k3' _ (zh (hsH.trans sH))) ?_;rintro r h2 ⟨rfl,s2⟩;have sH2:HSub H h2:=HSub.trans (zh sH) s2
     by_cases hcb:CF (i+1)=true
     ·rw[wM (i+1) hcb TN (by omega),if_pos rfl]at csk;refine zs3 hcb e14 e51 ?_;exact⟨_,⟨sH2,e0,e4,e6,e7,e8,e13,e50,k+1,by rw[csk];simp,by simp,by omega,rfl⟩,by omega⟩
     ·have hcb:=Bool.eq_false_iff.2 hcb;refine zs2 hcb e17 ?_;exact⟨_,⟨sH2,e0,e4,e6,e7,e8,e13,e50,e14,e51,e16,i+1,by omega,hcb,by omega,rfl⟩,by omega⟩
    ·have q3:(s.length:Int)<X-p.o+(i:Nat)+p.size:=by omega
     have wEi:=wE i q3 TN hi;rw[hcf]at wEi;rw[wEi,if_neg (by decide),Nat.add_zero]at csk;refine zs7 e0 e6 e13 e16 e17 e51 (zI @g6' (zI o1 (zI sl (zI @gV_u (zI @q1 q2))))) ?_;exact⟨_,⟨sH,e4,e7,e8,e50,k+1,by rw[csk];exact e14,by simp,by omega,rfl⟩,by omega⟩
   ·obtain rfl:i=TN:=by omega
    rw[hcf,if_neg (by decide),Nat.add_zero]at csk;refine zs7 e6 e13 e16 e17 e51 @g6' (zI o1 (zI @gV_u @q1)) ?_;exact⟨_,⟨sH,e0,e4,e7,e8,e50,k+1,by rw[csk];exact e14,by simp,by omega,rfl⟩,by omega⟩
  ·obtain rfl:k=N:=by omega
   refine zs1 e14 ?_;exact hsH.trans sH
 ·unfold jfA;by_cases c1:firstE [p.err,gErr b sh,codeE p prn,sampE s,placE f m]=0
  ·have cn:n<0\/100<n:=by
    by_cases q:n<0\/100<n
    ·exact q
    ·exact absurd ⟨c1,q⟩ c
   have ee:jcN p b sh s prn f m n=2:=by unfold jcN;rw[c1,if_neg (by decide),if_pos cn]
   rw[ee,if_neg (by decide)];rw[c1]at k1;unfold plA gA hitA at*;refine zf 399 B399 hC ?_;simp only[B399,zB];refine zs ?_;refine kaa (kp _ zr) (zs ?_);refine kaa (kg _) (zs ?_);refine kaa (kc _ zr) (zs ?_);refine kaa (ks _ zr) (zs ?_);refine kaa (kl _) (zs1 @Heap.wf ?_);refine kaa (k1 _ _ 0 (by refine zs ?_;rfl)) ?_;by_cases q:n<0
   ·refine zs2 q @gV_u ?_;exact zr
   ·have q2:100<n:=by omega
    refine zs3 q q2 @gV_u ?_;exact zr
  ·have ee:jcN p b sh s prn f m n=firstE [p.err,gErr b sh,codeE p prn,sampE s,placE f m]:=by unfold jcN;rw[if_pos c1]
   rw[ee,if_neg c1];clear ee;generalize firstE [p.err,gErr b sh,codeE p prn,sampE s,placE f m]=E at*;unfold plA gA hitA at*;refine zf 399 B399 hC ?_;simp only[B399,zB];refine zs ?_;refine kaa (kp _ zr) (zs ?_);refine kaa (kg _) (zs ?_);refine kaa (kc _ zr) (zs ?_);refine kaa (ks _ zr) (zs ?_);refine kaa (kl _) (zs1 @Heap.wf ?_);refine kaa (k1 _ _ 0 (by refine zs ?_;rfl)) ?_;refine zs1 c1 ?_;exact zr
abbrev HitT:=Int×Int×Int×Int
def hitCs(x:HitT):List AV:=[.int .i64 x.1,.int .i64 x.2.1,.int .i64 x.2.2.1,.int .i64 x.2.2.2]
def hitC(L:List HitT):List AV:=L.flatMap hitCs
theorem jl3(L:List HitT)(x:HitT):hitC L++hitCs x=hitC (L++[x]):=by simp[hitC]
def HI(h:Heap)(v:AV)(L:List HitT):Prop:=SL h 4 v L.length (hitC L)
def GrwH(h0 h:Heap)(v:AV)(L:List HitT):Prop:=Grw h0 h 4 v L.length (hitC L)
theorem GrwH.sub{L:List HitT}(A:GrwH h0 h v L):HSub h0 h:=A.1
theorem GrwH.hi{L:List HitT}(A:GrwH h0 h v L):HI h v L:=Grw.sl A
theorem kbL(h:Heap):GrwH h h .nilslice []:=kaZ h 4
theorem GrwH.app{L:List HitT}{c:Int}(A:GrwH h0 h v L):∀H:Heap,HSub h H->L.length+1<=1073741824->jav H none 4 32 v 1 [.int .i64 a,.int .i64 b,.int .i64 c,.int .i64 d]=some (.slice H.size 0 (L.length+1) (.unk 0),snocH H none v 4 (hitC (L++[(a,b,c,d)]))):=by
 intro H hs hb;rw[kaQ A hs (by decide) (by omega) (by rfl),<-jl3];rfl
theorem GrwH.snoc{L:List HitT}{x:HitT}(A:GrwH h0 h v L)(hs:HSub h H)(hb:L.length+1<=1073741824):GrwH h0 (snocH H none v 4 (hitC (L++[x]))) (.slice H.size 0 (L.length+1) (.unk 0)) (L++[x]):=by
 have:=kaH (news:=hitCs x) (m:=1) A hs rfl (by omega);rw[jl3]at this;unfold GrwH;rw[List.length_append];exact this
theorem jt7{a b c d:AV}{u:Nat}{wr:Bool}:contB 1 4 0 (some (.cells [a,b,c,d] wr u))=some (1,[a,b,c,d]):=rfl
def hitQ(p:PlanP)(s:List (Int×Int))(f m prn:Int):HitT:=(prn,f+(bstK (scnI p s prn f m) p.size.toNat:Nat),(scnI p s prn f m).getD (bstK (scnI p s prn f m) p.size.toNat) 0,m)
def clmQ(p:PlanP)(sh:Int)(s:List (Int×Int))(f m prn:Int):Bool:=claimB (thrI p sh prn) (hitQ p s f m prn).2.2.1 m
theorem jt8{m:Int}:hitI p s prn f m=.agg (hitCs (hitQ p s f m prn)):=rfl
def hitsL(p:PlanP)(sh:Int)(s:List (Int×Int))(f m:Int)(l:List Int):List HitT:=(l.filter fun x=>clmQ p sh s f m x).map fun x=>hitQ p s f m x
theorem joc(p:PlanP)(sh:Int)(s:List (Int×Int))(f m:Int)(l:List Int):(hitsL p sh s f m l).length<=l.length:=by
 unfold hitsL;rw[List.length_map];exact List.length_filter_le _ _
theorem jpp{sh:Int}{m:Int}{k:Nat}(hk:k<l.length):hitsL p sh s f m (l.take (k+1))=if clmQ p sh s f m (l.getD k 0)=true then hitsL p sh s f m (l.take k)++[hitQ p s f m (l.getD k 0)]else hitsL p sh s f m (l.take k):=by
 unfold hitsL;rw[jap hk,List.filter_append,List.map_append];generalize l.getD k 0=y;by_cases c:clmQ p sh s f m y=true
 ·rw[if_pos c];simp[List.filter_cons,c]
 ·rw[if_neg c];simp[List.filter_cons,c]
def jfg(p:PlanP)(b sh:Int)(s:List (Int×Int))(f m:Int):Int:=if firstE [p.err,gErr b sh,sampE s,placE f m]≠0 then firstE [p.err,gErr b sh,sampE s,placE f m]else if fitB s p f m=true then 0 else 16
def jl4(p:PlanP)(b sh:Int)(s:List (Int×Int))(f m:Int)(h:Heap)(r:AV)(h':Heap):Prop:=∃w,r=jai w (jfg p b sh s f m)/\HSub h h'/\HI h' w (if jfg p b sh s f m=0 then hitsL p sh s f m p.prns else[])
theorem acOkA{m:Int}(p64:p.ok64)(h0:p.err=0)(h2:sampE s=0)(h3:placE f m=0):((∀prn∈p.prns,AcOk p s prn)/\PlanOk p/\s.length<=1048576)/\(0<=f/\f<=1048576)/\(1<=m/\m<=16):=by
 have pk:=jdP h0;have key:∀prn∈p.prns,AcOk p s prn/\(0<=f/\f<=1048576)/\(1<=m/\m<=16):=fun prn hp=>jiB p64 h0 (by unfold codeE;rw[if_pos hp]) h2 h3;have l1:=pk.len.1;have k0:=key (p.prns[0]) (List.getElem_mem (by omega));exact⟨⟨fun x hx=>(key x hx).1,pk,k0.1.len⟩,k0.2⟩
theorem AcOk.hitB{m:Nat}(A:AcOk p s prn):0<=(hitQ p s f m prn).2.2.1/\(hitQ p s f m prn).2.2.1<=2200000000000*m:=by
 have sz:=jal A.ok.nums;have bl:=jiw (scnI p s prn f (m:Nat)) p.size.toNat;have hi:bstK (scnI p s prn f (m:Nat)) p.size.toNat<p.size.toNat:=by omega
 unfold hitQ;dsimp only;generalize bstK (scnI p s prn f (m:Nat)) p.size.toNat=i at*;have q:=A.pw (f+(i:Nat)) p.size m;have e:(scnI p s prn f (m:Nat)).getD i 0=pwK s (sampL p.d prn p.o.toNat) (f+(i:Nat)) p.size m:=by
  have:=jga (s:=s) (c:=sampL p.d prn p.o.toNat) (f:=f) (w:=p.size) (m:=m) hi;unfold scnI;rw[Int.toNat_natCast];exact this
 rw[e];omega
def isum(f:Nat->Int):Nat->Int
 |0=>0
 |n+1=>isum f n+f n
structure Pair (n:Nat) (t:Int) (U V:Nat->Int):Prop where
 pos:0<n
 u01:∀i,U i=0\/U i=1
 v01:∀i,V i=0\/V i=1
 uper:∀i,U (i+n)=U i
 vper:∀i,V (i+n)=V i
 usa:∀a,a% n≠0->∃s,∀i,(U i+U (i+a))% 2=U (i+s)
 vsa:∀a,a% n≠0->∃s,∀i,(V i+V (i+a))% 2=V (i+s)
 usum:isum (fun i=>1-2*U i) n= -1
 vsum:isum (fun i=>1-2*V i) n= -1
 corr:∀e,let S:=isum (fun i=>1-2*((U i+V (i+e))% 2)) n;S= -1\/S= -t\/S=t-2
section
variable {n : Nat} {t : Int} {U V : Nat -> Int}
end
theorem jsI{p:Int}(h:i<lenN d):(codeL d p).getD i 0=1\/(codeL d p).getD i 0= -1:=by
 rw[jif h];rcases jf2 d p i with h|h<;>rw[h]<;>simp
theorem jnr(hC:Has C TA){x:Int}(hx:In64 x):ACalls C 88 [.int .i64 x] h (fun r h'=>r=.int .i64 (5+x% 3)/\h'=h):=by
 have h1:=Int.emod_nonneg x (show(3:Int)≠0 by decide);have h2:=Int.emod_lt_of_pos x (show(0:Int)<3 by decide);refine zf 88 B88 hC ?_;simp only[B88,zB];refine zs ?_;refine kaa (jc7 hC hx (by decide)) ?_;exact ze
theorem jto{e:EmitP}(ok:EmOk p e)(n:Int):inS 127000 (atV p e n):=by
 have am:=ok.en.2.2.1;have pm:=ok.pn.2.2.2.2;have cp:=jnq ok (ok.per n).1;have bb:=ok.bit (e.pl p n);have cl:=jkf (jeb e.ph e.st (e.pl p n));unfold atV inS;dsimp only;generalize chipI p e (n-e.sta p (e.pl p n))=x at*;generalize bitI p e (e.pl p n)=y at*;generalize carP (phI e.ph e.st (e.pl p n))=cc at*;obtain⟨c1,c2⟩:=cc;dsimp only at*;have q:∃g:Int,e.amp*x*(1-2*y)=g/\ -1000<=g/\g<=1000:=by
  refine⟨_,rfl,?_⟩;rcases cp with rfl|rfl<;>rcases bb with rfl|rfl<;>omega
 obtain⟨g,hg,g1,g2⟩:=q;rw[hg];have h1:=jjB (k:=g) (s:=c1) (K:=1000) (S:=127) ⟨g1,g2⟩ ⟨cl.1,cl.2.1⟩;have h2:=jjB (k:=g) (s:=c2) (K:=1000) (S:=127) ⟨g1,g2⟩ ⟨cl.2.2.1,cl.2.2.2⟩;exact⟨by omega,by omega⟩
theorem RI.lt_ids(H:RI h v l):∀i∈v.ids,i<h.size:=by
 obtain⟨a,b,⟨rfl,h1⟩|⟨i,o,c,ws,wr',u',rfl,hg',hle,hc,x⟩⟩:=H
 ·simp[AV.ids]
 ·intro j hj;simp only[AV.ids,List.mem_singleton]at hj;subst hj;exact kab hg'
theorem RI.off(H:RI h v l)(hh:∀i∈v.ids,h'.get i=h.get i):RI h' v l:=by
 obtain⟨a,b,⟨rfl,h1⟩|⟨i,o,c,ws,wr',u',rfl,hg',hle,hc,x⟩⟩:=H
 ·exact⟨a,b,.inl ⟨rfl,h1⟩⟩
 ·exact⟨a,b,.inr ⟨i,o,c,ws,wr',u',rfl,(hh i (by simp[AV.ids])).trans hg',hle,hc,x⟩⟩
open Go.Conc
def WpM(P:Program)(c:Code)(Q:Out->Phase->Keep->Act->World->Prop)(ph:Phase)(kp:Keep)(a:Act)(w:World):Prop:=
 ∀(Fin:Value->World->Prop) (p:Prop) (b:Frame) (k:List Item) (cs:List Frame),b.roundOf=none->b.kind≠.early->
  (∀o ph' kp' a' w',Q o ph' kp' a' w'->jp1 (PJ P Fin p ph') b k cs o kp' a' w')->PJ P Fin p ph kp (G (b.atR a (.code c::k)) cs) w
def OpsM(P:Program)(ops:Array Oper)(todo:List Nat)(Q:Phase->Keep->Act->World->Prop)(ph:Phase)(kp:Keep)(a:Act)(w:World):Prop:=
 ∀(Fin:Value->World->Prop) (p:Prop) (b:Frame) (k:List Item) (cs:List Frame),b.roundOf=none->b.kind≠.early->
  (∀ph' kp' a' w',Q ph' kp' a' w'->PJ P Fin p ph' kp' (G (b.atR a' k) cs) w')->PJ P Fin p ph kp (G (b.atR a (.inRegion ops todo::k)) cs) w
def OpM(P:Program)(ops:Array Oper)(i:Nat)(Q:Phase->Keep->Act->World->Prop)(ph:Phase)(kp:Keep)(a:Act)(w:World):Prop:=
 ∀(Fin:Value->World->Prop) (p:Prop) (b:Frame) (rest:List Nat) (k:List Item) (cs:List Frame),b.roundOf=none->b.kind≠.early->
  (∀ph' kp' a' w',Q ph' kp' a' w'->PJ P Fin p ph' kp' (G (b.atR a' (.inRegion ops rest::k)) cs) w')->PJ P Fin p ph kp (G (b.atR a (.inRegion ops (i::rest)::k)) cs) w
section
variable {P : Program} {ph : Phase} {kp : Keep} {a : Act} {w : World} {Q Q' : Out -> Phase -> Keep -> Act -> World -> Prop}
theorem jiE{c:Code}(h:WpM P c Q ph kp a w)(hq:∀o ph' kp' a' w',Q o ph' kp' a' w'->Q' o ph' kp' a' w'):WpM P c Q' ph kp a w:=
 fun Fin p b k cs hro hb hk=>h Fin p b k cs hro hb fun o ph' kp' a' w' x=>hk o ph' kp' a' w' (hq _ _ _ _ _ x)
theorem juI{x y:Code}(h:WpM P x (fun o ph' kp' a' w'=>match o with|.normal=>WpM P y Q ph' kp' a' w'|o=>Q o ph' kp' a' w') ph kp a w):WpM P (.seq x y) Q ph kp a w:=by
 intro Fin p b k cs hro hb hk;refine(jcH ph).ctl rfl rfl (fun _=>jpW) (h Fin p b (.code y::k) cs hro hb fun o ph' kp' a' w' q=>?_);cases o with
 |normal=>exact q Fin p b k cs hro hb hk
 |exit id=>exact fun k2 e=>hk _ _ _ _ _ q k2 e
 |ret=>exact fun k2=>hk _ _ _ _ _ q k2
theorem jsJ{id:Nat}{c:Code}(h:WpM P c (fun o ph' kp' a' w'=>match o with|.exit id'=>if id'=id then Q .normal ph' kp' a' w' else Q (.exit id') ph' kp' a' w'|o=>Q o ph' kp' a' w') ph kp a w):WpM P (.block id c) Q ph kp a w:=by
 intro Fin p b k cs hro hb hk;refine(jcH ph).ctl rfl rfl (fun _=>jnN) (h Fin p b (.inBlock id::k) cs hro hb fun o ph' kp' a' w' q=>?_);cases o with
 |normal=>exact(jcH ph').ctl rfl rfl (fun _=>jji) (hk _ _ _ _ _ q)
 |ret=>exact fun k2=>hk _ _ _ _ _ q k2
 |exit id'=>
  intro k2 e;dsimp only at q;by_cases hi:id'=id
  ·subst hi;rw[if_pos rfl]at q;exact(jcH ph').ctl rfl rfl (fun _=>jpY (by rw[e];simp[exitTo])) (hk _ _ _ _ _ q)
  ·rw[if_neg hi]at q;exact hk _ _ _ _ _ q k2 (by rw[e];simp[exitTo,Ne.symm hi])
theorem jt9{c:Code}(I:Nat->Phase->Keep->Act->World->Prop){j0:Nat}(h0:I j0 ph kp a w)
  (round:∀j ph kp a w,I j ph kp a w->WpM P c (fun o ph' kp' a' w'=>match o with|.normal=>∃i,i<j/\I i ph' kp' a' w'|o=>Q o ph' kp' a' w') ph kp a w):WpM P (.loop c) Q ph kp a w:=by
 intro Fin p b k cs hro hb hk;refine(jcH ph).ctl rfl rfl (fun _=>jpX) ?_;have key:∀j ph kp a w,I j ph kp a w->PJ P Fin p ph kp (G (b.atR a (.code c:: .inLoop c::k)) cs) w:=by
  intro j
  induction j using Nat.strongRecOn with
  | _ j ih =>
   intro ph kp a w hI;refine round j ph kp a w hI Fin p b (.inLoop c::k) cs hro hb fun o ph' kp' a' w' q=>?_;cases o with
   |normal=>
    obtain⟨i,hlt,hI'⟩:=q;exact(jcH ph').ctl rfl rfl (fun _=>jlg) (ih i hlt _ _ _ _ hI')
   |exit id=>exact fun k2 e=>hk _ _ _ _ _ q k2 (by rw[e];simp[exitTo])
   |ret=>exact fun k2=>hk _ _ _ _ _ q k2
 exact key _ _ _ _ _ h0
theorem jq8{id:Nat}(h:OpsM P ops (List.range ops.size) (Q .normal) ph kp a w):WpM P (.region id ops false) Q ph kp a w:=
 fun Fin p b k cs hro hb hk=>(jcH ph).ctl rfl rfl (fun _=>jhU) (h Fin p b k cs hro hb fun ph' kp' a' w' q=>hk _ _ _ _ _ q)
theorem juJ{R:Phase->Keep->Act->World->Prop}(h:R ph kp a w):OpsM P ops [] R ph kp a w:=
 fun Fin p b k cs _ _ hk=>(jcH ph).ctl rfl rfl (fun _=>jd4) (hk _ _ _ _ h)
theorem jns{rest:List Nat}{R:Phase->Keep->Act->World->Prop}(h:OpM P ops i (fun ph' kp' a' w'=>OpsM P ops rest R ph' kp' a' w') ph kp a w):OpsM P ops (i::rest) R ph kp a w:=
 fun Fin p b k cs hro hb hk=>h Fin p b rest k cs hro hb fun ph' kp' a' w' q=>q Fin p b k cs hro hb hk
theorem jiF{R R':Phase->Keep->Act->World->Prop}(h:OpM P ops i R ph kp a w)(hq:∀ph' kp' a' w',R ph' kp' a' w'->R' ph' kp' a' w'):OpM P ops i R' ph kp a w:=
 fun Fin p b rest k cs hro hb hk=>h Fin p b rest k cs hro hb fun ph' kp' a' w' x=>hk ph' kp' a' w' (hq _ _ _ _ x)
end
section
variable {C : Ctx} {ph : Phase} {kp : Keep} {a : Act} {w : World}
theorem jod{c:Code}{Q:Out->Keep->Act->World->Prop}(h:WpJ (C.at ph) none c Q kp a w):WpM C.P c (fun o ph' kp' a' w'=>ph'=ph/\Q o kp' a' w') ph kp a w:=
 fun Fin p b k cs hro hb hk=>h _ (C.at_fam Fin p ph) b k cs hro hb fun o kp' a' w' q=>hk o ph kp' a' w' ⟨rfl,q⟩
theorem joe{K:Keep->Act->World->Prop}(h:OpJ (C.at ph) none ops i K kp a w):OpM C.P ops i (fun ph' kp' a' w'=>ph'=ph/\K kp' a' w') ph kp a w:=
 fun Fin p b rest k cs hro hb hk=>h _ (C.at_fam Fin p ph) b rest k cs hro hb fun kp' a' w' q=>hk ph kp' a' w' ⟨rfl,q⟩
end
end Go.Ae
namespace Go.Ae
variable {C : Ctx} {h h' H h0 : Heap} {v vp : AV} {p : PlanP} {w w' : World} {env : Env} {kp : Keep} {ops : Array Oper} {st : St} {i sz c : Nat} {l : List Int} {s : List (Int × Int)} {prn d b f a : Int} {cs : List AV} {ev : AOpd -> AV} {nid : Option Nat}
open Go.Conc
def ABlk.freeze:ABlk->ABlk
 |.cells vs _ u=>.cells vs false u
 |_=>.dead
def Heap.freeze(h:Heap):Heap:=⟨h.size,fun i=>(h.get i).map ABlk.freeze,fun i hi=>by rw[h.wf i hi];rfl⟩
def Heap.thaw(hs:Heap)(ic:Nat)(h:Heap):Heap:=
 ⟨h.size,fun i=>if i<h.size then(if i<hs.size then(if i=ic then some .dead else hs.get i)else(h.get i).map fun b=>if b.wr then b else .dead)else none,fun i hi=>by rw[if_neg (by omega)]⟩
theorem jdR(h:Heap)(i:Nat):h.freeze.get i=(h.get i).map ABlk.freeze:=rfl
@[simp] theorem size_freeze (h:Heap):h.freeze.size=h.size:=rfl
theorem jiG(h:Heap)(i:Nat):h.freeze.ok i↔h.ok i:=by simp[Heap.ok,jdR]
theorem jgQ(h:Heap):h.freeze.ok=h.ok:=funext fun i=>propext (jiG h i)
@[simp] theorem size_thaw (hs:Heap) (ic:Nat) (h:Heap):(hs.thaw ic h).size=h.size:=rfl
structure AProm where
 av:Nat->AV
 blk:Option (List AV)
structure AProm.Ok (p:AProm):Prop where
 shift:∀(lk:Nat->FuncId) (n:Nat) (env:Env),(p.av n).val lk env=(p.av 0).val lk (fun _=>env n)
 bel:∀(n:Nat) (q:Nat->Prop),(p.blk≠none->q n)->(p.av n).bel q
 cells:∀vs,p.blk=some vs->∀v∈vs,v.bel fun _=>False
def AProm.prom(lk:Nat->FuncId)(B:Nat)(p:AProm):Prom:=fun v w T=>∃e:EB,v=(p.av 0).val lk (fun _=>e)/\
 match p.blk with
 |none=>∀r,¬T r
 |some vs=>B<=e.blk/\e.blk<w.heap.size/\(∀r,T r↔r=e.blk)/\∀k v,vs[k]? =some v->w.cell? ⟨e.blk,e.sh+k,none⟩=some (v.val lk (fun _=>e))
def AProm.land(p:AProm)(h:Heap):Heap:=
 match p.blk with
 |none=>h
 |some vs=>h.push (.cells vs false 0)
structure Since (extra kp0:Keep) (w0:World) (kp:Keep) (w:World):Prop where
 size:w0.heap.size<=w.heap.size
 os:w.os=w0.os
 tape:w.tape=w0.tape
 output:w.output=w0.output
 block:∀r,r<w0.heap.size->extra.no r->¬kp0.hide r->w.heap[r]? =w0.heap[r]?
 hide:∀r,kp0.hide r->kp.hide r
 hide':∀r,extra.no r->kp.hide r->kp0.hide r\/w0.heap.size<=r
structure Ent where
 kp:Keep
 env:Env
 h:Heap
 w:World
structure Snap (C:Ctx) (extra:Keep) (E:Ent) (kp:Keep) (env:Env) (h:Heap) (w:World):Prop where
 rel:Rel C (kp.or extra) env h w
 since:Since extra E.kp E.w kp w
 ext:Ext E.h E.env env
 hle:HLe E.h h
 no:∀r,E.kp.no r->kp.no r
 no':∀r,kp.no r->E.kp.no r\/E.w.heap.size<=r
def Keep.below(extra:Keep)(n:Nat):Keep:=⟨fun r=>extra.no r\/r<n,extra.hide⟩
inductive Gh where
 |idle
 |busy (ic:Nat) (aps:List AProm) (hs:Heap)
structure Busy (C:Ctx) (extra:Keep) (nt:Nat) (E:Ent) (ic:Nat) (aps:List AProm) (hs:Heap) (c:Nat) (ps:List Prom) (kps:Keep) (envs:Env) (ws:World) (kp:Keep) (env:Env) (st:St) (a:Act) (w:World):Prop where
 snap:Snap C extra E kps envs hs ws
 sim:Sim C (kp.or (extra.below ws.heap.size)) nt env st a w
 ne:aps≠[]
 chan:hs.get ic=some .chan
 hc:c=(envs ic).blk
 hps:ps=aps.map (AProm.prom C.lk ws.heap.size)
 ok:∀p∈aps,p.Ok
 ext:Ext hs envs env
 hle:HLe hs st.h
 no:∀r,r<ws.heap.size->kp.no r
 hidec:kp.hide c
 hide:∀r,kps.hide r->kp.hide r
 hide':∀r,kp.hide r->kps.hide r\/r=c\/ws.heap.size<=r
 rows:∀r,r<ws.heap.size->¬kps.hide r->r≠c->w.heap[r]? =ws.heap[r]?
 size:ws.heap.size<=w.heap.size
 os:w.os=ws.os
 tape:w.tape=ws.tape
 output:w.output=ws.output
def GSim(C:Ctx)(extra:Keep)(nt:Nat)(E:Ent):Gh->Phase->Keep->Env->St->Act->World->Prop
 |.idle,ph,kp,env,st,a,w=>ph=none/\Snap C extra E kp env st.h w/\Sim C (kp.or extra) nt env st a w
 |.busy ic aps hs,ph,kp,env,st,a,w=>∃c ps kps envs ws,ph=some (c,ps)/\Busy C extra nt E ic aps hs c ps kps envs ws kp env st a w
section
variable {C : Ctx} {extra : Keep} {nt : Nat} {E : Ent}
theorem Since.keepJ{kp0 kp':Keep}{w0:World}(h:Since extra kp0 w0 kp w)(K:KeepJ kp extra w kp' w'):Since extra kp0 w0 kp' w':=by
 have hs:=h.size;refine⟨Nat.le_trans h.size K.size,K.os.trans h.os,K.tape.trans h.tape,K.output.trans h.output,fun r hr he hn=>?_,fun r x=>K.hide r (h.hide r x),fun r he x=>?_⟩
 ·rw[K.block r (Nat.lt_of_lt_of_le hr h.size) he (fun x=>(h.hide' r he x).elim hn fun y=>by omega),h.block r hr he hn]
 ·rcases K.hide' r he x with y|y
  ·exact h.hide' r he y
  ·exact .inr (by omega)
theorem Snap.keepJ{kp':Keep}{env':Env}(S:Snap C extra E kp env h w)(K:KeepJ kp extra w kp' w')(R:Rel C (kp'.or extra) env' h' w')(X:Ext h env env')(L:HLe h h'):Snap C extra E kp' env' h' w':=by
 have hs:=S.since.size;refine⟨R,S.since.keepJ K,S.ext.trans S.hle X,S.hle.trans L,fun r x=>K.no r (S.no r x),fun r x=>?_⟩;rcases K.no' r x with y|y
 ·exact S.no' r y
 ·exact .inr (by omega)
theorem jl5{keep:Keep}{env:Env}{st:St}{a:Act}{w:World}:∀{ph:Phase},Sim C keep nt env st a w->Sim (C.at ph) keep nt env st a w
 |none,h=>⟨h.size,h.tmps,h.bel,h.defers,h.marks,h.rel.1,h.rel.2,h.rel.3,h.rel.4,h.rel.5,h.rel.6,h.rel.7,h.rel.8⟩
 |some _,h=>⟨h.size,h.tmps,h.bel,h.defers,h.marks,h.rel.1,h.rel.2,h.rel.3,h.rel.4,h.rel.5,h.rel.6,h.rel.7,h.rel.8⟩
theorem jgd{keep:Keep}{env:Env}{st:St}{a:Act}{w:World}:∀{ph:Phase},Sim (C.at ph) keep nt env st a w->Sim C keep nt env st a w
 |none,h=>⟨h.size,h.tmps,h.bel,h.defers,h.marks,h.rel.1,h.rel.2,h.rel.3,h.rel.4,h.rel.5,h.rel.6,h.rel.7,h.rel.8⟩
 |some _,h=>⟨h.size,h.tmps,h.bel,h.defers,h.marks,h.rel.1,h.rel.2,h.rel.3,h.rel.4,h.rel.5,h.rel.6,h.rel.7,h.rel.8⟩
theorem Busy.far{ic:Nat}{aps:List AProm}{hs:Heap}{c:Nat}{ps:List Prom}{kps:Keep}{envs:Env}{ws:World}{kp kp':Keep}{env env':Env}{st st':St}{a a':Act}{w w':World}(B:Busy C extra nt E ic aps hs c ps kps envs ws kp env st a w)
  (S':Sim C (kp'.or (extra.below ws.heap.size)) nt env' st' a' w') (K:KeepJ kp (extra.below ws.heap.size) w kp' w') (X:Ext st.h env env') (L:HLe st.h st'.h):Busy C extra nt E ic aps hs c ps kps envs ws kp' env' st' a' w':=by
 have hsz:=B.size;refine⟨B.snap,S',B.ne,B.chan,B.hc,B.hps,B.ok,B.ext.trans B.hle X,B.hle.trans L,fun r hr=>K.no r (B.no r hr),K.hide _ B.hidec,fun r x=>K.hide r (B.hide r x),fun r x=>?_,fun r hr hn hne=>?_,
  Nat.le_trans B.size K.size,K.os.trans B.os,K.tape.trans B.tape,K.output.trans B.output⟩
 ·rcases Nat.lt_or_ge r ws.heap.size with hr|hr
  ·rcases K.hide' r (.inr hr) x with y|y
   ·exact B.hide' r y
   ·omega
  ·exact .inr (.inr hr)
 ·have hnh:¬kp.hide r:=fun x=>by
   rcases B.hide' r x with y|y|y
   ·exact hn y
   ·exact hne y
   ·omega
  rw[K.block r (by omega) (.inr hr) hnh,B.rows r hr hn hne]
theorem Busy.rely{ic:Nat}{aps:List AProm}{hs:Heap}{ps:List Prom}{kps:Keep}{envs:Env}{ws:World}{kp':Keep}{a:Act}(B:Busy C extra nt E ic aps hs c ps kps envs ws kp env st a w)(r:Rely kp w kp' w'):Busy C extra nt E ic aps hs c ps kps envs ws kp' env st a w':=
 B.far (B.sim.rely r) (r.keepJ _) (kam _ _) (kax _)
theorem jsK{g:Gh}{c:Code}{ph:Phase}{kp:Keep}{env:Env}{st:St}{a:Act}{w:World}{Q:Out->Gh->St->Prop}(S:GSim C extra nt E g ph kp env st a w)
  (h:wp (C.at ph) nt none (jad C.P C.inv nt c) (fun o st'=>Q o g st') st):
  WpM C.P c (fun o ph' kp' a' w'=>∃g' env' st',GSim C extra nt E g' ph' kp' env' st' a' w'/\Q o g' st') ph kp a w:=by
 have low:∀ph:Phase,jad (C.at ph).P (C.at ph).inv nt c=jad C.P C.inv nt c:=fun ph=>by cases ph<;>rfl
 cases g with
 |idle=>
  obtain⟨rfl,hS,hs⟩:=S;have H:=jeP (C:=C.at none) (extra:=extra) (nt:=nt) default none (jco _ none) (jcV _ none) c (fun o st'=>Q o .idle st') kp env st a w (by rw[low];exact h) (jl5 hs) (by intro l hl;cases hl);refine jiE (jod H) ?_;rintro o ph' kp' a' w' ⟨rfl,env',st',F,_,hL,hq⟩;have s':=jgd F.sim;exact⟨.idle,env',st',⟨rfl,hS.keepJ F.keepJ s'.rel F.ext hL,s'⟩,hq⟩
 |busy ic aps hs=>
  obtain⟨c0,ps,kps,envs,ws,rfl,B⟩:=S;have H:=jeP (C:=C.at (some (c0,ps))) (extra:=extra.below ws.heap.size) (nt:=nt) default none (jco _ none) (jcV _ none) c (fun o st'=>Q o (.busy ic aps hs) st') kp env st a w (by rw[low];exact h) (jl5 B.sim) (by intro l hl;cases hl);refine jiE (jod H) ?_;rintro o ph' kp' a' w' ⟨rfl,env',st',F,_,hL,hq⟩;exact⟨.busy ic aps hs,env',st',⟨c0,ps,kps,envs,ws,rfl,B.far (jgd F.sim) F.keepJ F.ext hL⟩,hq⟩
theorem jsL{g:Gh}{ops:Array Oper}{i:Nat}{o:Oper}{ph:Phase}{kp:Keep}{env:Env}{st:St}{a:Act}{w:World}{K:Gh->St->Prop}(S:GSim C extra nt E g ph kp env st a w)(ho:ops[i]? =some o)(hw:Region.wanted o (yielded ops a.tmps)=true)
  (h:wpOp (C.at ph) none (jar C.P C.inv nt ops o) (K g) st):
  OpM C.P ops i (fun ph' kp' a' w'=>∃g' env' st',GSim C extra nt E g' ph' kp' env' st' a' w'/\K g' st') ph kp a w:=by
 have low:∀ph:Phase,jar (C.at ph).P (C.at ph).inv nt ops o=jar C.P C.inv nt ops o:=fun ph=>by cases ph<;>rfl
 cases g with
 |idle=>
  obtain⟨rfl,hS,hs⟩:=S;have H:=jfS (C:=C.at none) (extra:=extra) (jl5 hs) none ho hw (low none) h;refine jiF (joe H) ?_;rintro ph' kp' a' w' ⟨rfl,env',st',F,_,h2,hq⟩;have s':=jgd F.sim;exact⟨.idle,env',st',⟨rfl,hS.keepJ F.keepJ s'.rel F.ext ⟨F.grow.size,fun i hi=>h2 i hi (by simp)⟩,s'⟩,hq⟩
 |busy ic aps hs=>
  obtain⟨c0,ps,kps,envs,ws,rfl,B⟩:=S;have H:=jfS (C:=C.at (some (c0,ps))) (extra:=extra.below ws.heap.size) (jl5 B.sim) none ho hw (low _) h;refine jiF (joe H) ?_;rintro ph' kp' a' w' ⟨rfl,env',st',F,_,h2,hq⟩;exact⟨.busy ic aps hs,env',st',⟨c0,ps,kps,envs,ws,rfl,B.far (jgd F.sim) F.keepJ F.ext ⟨F.grow.size,fun i hi=>h2 i hi (by simp)⟩⟩,hq⟩
end
end Go.Ae
