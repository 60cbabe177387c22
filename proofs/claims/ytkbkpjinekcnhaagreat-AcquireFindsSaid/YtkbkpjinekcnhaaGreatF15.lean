/- Texts of the proof, part 15: a second reading of the lowered code, proved sound, and what the functions compute. -/
import Derived.Test.YtkbkpjinekcnhaaGreatF14
set_option linter.unusedSimpArgs false
set_option linter.unusedVariables false
set_option maxRecDepth 20000
set_option maxHeartbeats 4000000
namespace Go.Ae
variable {C : Ctx} {h h' H h0 : Heap} {vp : AV} {l : List Int} {s : List (Int × Int)} {d b a : Int} {sz u : Nat}
theorem jaF(d p:Int)(o:Nat):(sampL d p o).length=lenN d*o:=by rw[<-jgF,jdl _ (Nat.le_refl _),jaM]
def jaA(d o:Int)(ps:List Int):Int:=if jax d o=0/\∀p∈ps,jaG d p=0 then 0 else 2
def jbL(vs:List AV)(o:Int):List AV:=vs.flatMap fun v=>[v,.int .i64 o]
theorem je5(vs:List AV)(v:AV)(o:Int):jbL (vs++[v]) o=jbL vs o++[v,.int .i64 o]:=by simp[jbL]
theorem jef(o:Int):∀(vs:List AV) (k:Nat),k<vs.length->cut (jbL vs o) (k*2) 2=[vs.getD k .nilslice,.int .i64 o]
 |[],k,h=>by simp at h
 |v::vs,0,_=>rfl
 |v::vs,k+1,h=>by
  rw[show jbL (v::vs) o=v:: .int .i64 o::jbL vs o from rfl,show(k+1)*2=k*2+1+1 by omega,cut_succ,cut_succ,jef o vs k (by simpa using h)];rfl
structure CLs (h:Heap) (v:AV) (d o:Int) (ps:List Int) (vs:List AV):Prop where
 sl:SL h 2 v ps.length (jbL vs o)
 len:vs.length=ps.length
 ri:∀i,i<ps.length->RI h (vs.getD i .nilslice) (sampL d (ps.getD i 0) o.toNat)
theorem jmP{k K:Nat}(hs:HSub h0 h)(hk:h0.size<=k)(hl:K=l.length/\l.length<9223372036854775808)(hg:h.get k=some (.cells (ints l) true 1)):GrwI h0 h (.slice k 0 K (.unk 0)) l:=by
 obtain⟨rfl,hl⟩:=hl;exact ka5 hs hk hl hg
theorem jf3(hC:Has C TA){d o:Int}{vp:AV}{ps:List Int}{h:Heap}(hd:In64 d)(ho:In64 o)(hp:RI h vp ps)(hx:∀x∈ps,In64 x)(hpl:ps.length<=1000):
  ACalls C 142 [.int .i64 d,.int .i64 o,vp] h (fun r h'=>∃v vs,r=jai v (jaA d o ps)/\HSub h h'/\(jaA d o ps=0->CLs h' v d o ps vs/\∀i,i<ps.length->GrwI h h' (vs.getD i .nilslice) (sampL d (ps.getD i 0) o.toNat))):=by
 have hplt:=hp.lt;by_cases ck:jax d o=0
 ·have pe:jaA d o ps=if ∀p∈ps,jaG d p=0 then 0 else 2:=by unfold jaA;simp only[ck,true_and]
  have kr:lenOk d=true/\1<=o/\o<=8:=by
   unfold jax at ck;split at ck
   ·assumption
   ·cases ck
  obtain⟨q,rfl⟩:=Int.eq_ofNat_of_zero_le (show 0<=o by omega);have hN:=jbk kr.1;refine zf 142 B142 hC ?_;simp only[B142,zB];refine zs ?_;refine kaa (jb8 hC hd ho) ?_;rw[ck];refine zs1 @hp.len ?_;refine jae (fun j t h'=>∃(k:Nat) (vs:List AV),Grw h h' 2 (t 9) k (jbL vs (q:Nat))/\vs.length=k/\(∀i,i<k->GrwI h h' (vs.getD i .nilslice) (sampL d (ps.getD i 0) q)/\Dj (vs.getD i .nilslice) (t 9))/\(∀i,i<k->jaG d (ps.getD i 0)=0)/\
   t 0=.int .i64 d/\t 1=.int .i64 (q:Nat)/\t 23=vp/\t 24=.int .i64 (ps.length:Nat)/\t 25=.int .i64 (k:Nat)/\k<=ps.length/\j=ps.length-k) (j0:=ps.length)
   ⟨0,[],kaZ _ _,rfl,fun i hi=>by omega,fun i hi=>by omega,rfl,rfl,rfl,rfl,rfl,by omega,rfl⟩ ?_
  rintro j t h2 ⟨k,vs,A,hvl,hvs,hce,e0,e1,e23,e24,e25,hk,hj⟩;refine zs2 e24 e25 ?_;refine kaf (fun c1=>?_) (fun c1=>?_)
  ·have hk':k<ps.length:=by omega
   have hp2:=hp.mono A.sub;have hxk:=hx _ (jam hk');obtain⟨p,hpd⟩:∃p,p=ps.getD k 0:=⟨_,rfl⟩;have hld:=hp2.load hk';rw[<-hpd]at hld hxk;have hcode:=jqA hC (h:=h2) hd hxk;refine zs6 e0 e1 e23 e25 @hp2.idx hld ?_;refine kad hcode ?_;rintro r h3 ⟨v1,rfl,s1,R1,_⟩;by_cases cc:jaG d p=0
   ·rw [cc, if_pos rfl] at R1;rw [cc];have cl := jaM d p;refine zs4 @jai.eq_1 e1 @R1.len cl ?_;have R1' := R1.mono (kac h3 (.cells [.nilslice, .int .i64 (q : Nat)] true 0));refine jae (fun j t' h' => ∃ (i : Nat) (w : AV), GrwI h3 h' w (sampP d p q i) /\ Dj (.ptr h3.size 0) w /\ h'.get h3.size = some (.cells [w, .int .i64 (q : Nat)] true 0) /\ h3.size + 1 <= h'.size /\
     t' 0=.int .i64 d/\t' 1=.int .i64 (q:Nat)/\t' 9=t 9/\t' 14=.ptr h3.size 0/\t' 23=vp/\t' 24=.int .i64 (ps.length:Nat)/\t' 25=.int .i64 (k:Nat)/\t' 40=v1/\t' 41=.int .i64 (lenN d:Nat)/\t' 42=.int .i64 (i:Nat)/\i<=lenN d/\j=lenN d-i) (j0:=lenN d)
     ⟨0,.nilslice,kaV (kac _ _),kby,get_push_eq rfl,by simp,e0,e1,rfl,rfl,e23,e24,e25,rfl,rfl,rfl,by omega,rfl⟩ ?_
    rintro j t' h4 ⟨i,w,B,dj,gb,hsz,e0',e1',e9',e14',e23',e24',e25',e40',e41',e42',hi,hj'⟩;refine zs2 e41' e42' ?_;refine kaf (fun c2=>?_) (fun c2=>?_)
    ·have hi':i<lenN d:=by omega
     have R4:=R1.mono B.sub;have hl4:=R4.load (k:=i) (by omega);obtain⟨x,hx⟩:∃x,x=(codeL d p).getD i 0:=⟨_,rfl⟩;rw[<-hx]at hl4;have rep:=fun(H:Heap) (hg:H.get (h4.size+3)=some (.cells [.int .i64 x] true 0))=>jie hC (v:=.slice (h4.size+3) 0 1 (.known 1)) (x:=x) (n:=q) (h:=H) (kah hg ⟨rfl,by decide⟩ (by decide)) (by omega);refine zs7 e1' e14' e40' e42' @R4.idx hl4 (zI gb @Heap.wf) ?_;refine kal (fun H hH=>?_);have N:H.size=h4.size+9:=by rw[hH];exact ze
     have g3:H.get (h4.size+3)=some (.cells [.int .i64 x] true 0):=by rw[hH];exact ze
     have gn:H.get (h4.size+6)=none:=by rw[hH];exact ze1 @Heap.wf
     have hs4:HSub h4 H:=by rw[hH];exact zr
     clear hH;refine kad (rep H g3) ?_;rintro r h5 F;have F':=F;obtain⟨s5,fl,i5,hi5,rfl,g5⟩:=F';have z5:=s5.size;have gb5:h5.get h3.size=some (.cells [w,.int .i64 (q:Nat)] true 0):=(s5.get _ (by omega)).trans ((hs4.get _ (by omega)).trans gb);have gb6:H.get h3.size=some (.cells [w,.int .i64 (q:Nat)] true 0):=(hs4.get _ (by omega)).trans gb;have gn5:h5.get (h4.size+6)=none:=(s5.get _ (by omega)).trans gn;have sp:=jgE (d:=d) (p:=p) (o:=q) (k:=i) (by omega);rw[<-hx]at sp;have sl:=jdl (d:=d) (p:=p) (o:=q) i (by omega);have iq:i*q<=1023*8:=Nat.mul_le_mul (by omega) (by omega)
     have ap:=kbc (H:=h5) (k:=h4.size+6) (m:=q) (bytes:=8) (news:=ints (List.replicate q x)) B (fun j hj=>(s5.get _ (by have:=(Grw.ids_lt B j hj).2;omega)).trans (hs4.get _ (Grw.ids_lt B j hj).2)) ⟨by omega,by omega⟩ (by omega) (by rw[sl];omega) jkc;rw[jfo,<-sp]at ap;have cF:=F.ri.content;simp only[List.length_replicate]at cF;have cN:(List.replicate q x).length=q:=List.length_replicate;have hw:h3.size∉w.ids:=dj _ (by simp[AV.ids]);have gS:(snocH h5 (some (h4.size+6)) w 1 (ints (sampP d p q (i+1)))).get h3.size=some (.cells [w,.int .i64 (q:Nat)] true 0):=(jee (by omega) hw).trans gb5
     have zS:(snocH h5 (some (h4.size+6)) w 1 (ints (sampP d p q (i+1)))).size=h5.size:=jeU;have rS:(snocH h5 (some (h4.size+6)) w 1 (ints (sampP d p q (i+1)))).get (h4.size+6)=some (.cells (ints (sampP d p q (i+1))) true 1):=jgG (by omega);have bS:=jig (k:=h4.size+6) (ds:=ints (sampP d p q (i+1))) B ((B.sub.trans hs4).trans s5) (by have:=B.sub.size;omega);have sl2:=jdl (d:=d) (p:=p) (o:=q) (i+1) (by omega);have iq2:(i+1)*q<=1023*8:=Nat.mul_le_mul (by omega) (by omega);have slq:(sampP d p q i).length+q=(sampP d p q (i+1)).length:=by rw[sp,List.length_append,List.length_replicate]
     refine zs7 cN gb5 gb6 gn5 cF ap (zI @appK_none e14') ?_;refine⟨gb.symm,?_⟩;refine zs7 gS e0' e1' e9' e14' e23' (zI e24' (zI e25' (zI e40' (zI e41' e42')))) ?_;refine⟨_,⟨i+1,_,jmP (bS.put (Nat.le_refl _) _) (by have:=B.sub.size;omega) ⟨slq,by omega⟩ ((get_put_ne (by omega)).trans rS),?_,rfl,by rw[zS];omega,by simp,by omega,rfl⟩,by omega⟩;intro j hj;simp only[AV.ids,List.mem_singleton]at hj|-;omega
    ·have ei:i=lenN d:=by omega
     subst ei;have wone:w.one=true:=(Grw.sl B).one;have full:sampP d p q (lenN d)=sampL d p q:=by rw[<-jgF,jaM]
     rw[full]at B;have A4:=A.mono (s1.trans B.sub);have hn1:[w,AV.int .i64 (q:Nat)].all AV.one=true:=by simp[wone,jfp]
     have ap:=fun b=>kaQ A4 (bytes:=32) (m:=1) (news:=[w,.int .i64 (q:Nat)]) (kac h4 b) (by decide) (by omega) hn1;have A5:=fun b=>kaH A4 (m:=1) (news:=[w,.int .i64 (q:Nat)]) (kac h4 b) rfl (by omega);rw[<-je5]at ap A5;refine zs7 e9' e14' gb @cont_slice @contB_two ap (zI e0' (zI e1' (zI e23' (zI e24' e25')))) ?_;have B0:GrwI h h4 w (sampL d p q):=B.base (A.sub.trans s1);have z1:=s1.size;have z4:=B.sub.size;have dw:Dj w (t 9):=fun j hj hj9=>by
      have q1:=(Grw.ids_lt B j hj).1;have q2:=(Grw.ids_lt A j hj9).2;omega
     refine⟨_,⟨k+1,vs++[w],A5 _,by simp[hvl],fun i hi=>?_,fun i hi=>?_,by simp,by omega,rfl⟩,by omega⟩
     ·rcases Nat.lt_or_ge i k with x|x
      ·have e:(vs++[w]).getD i .nilslice=vs.getD i .nilslice:=by simp[List.getD_eq_getElem?_getD,List.getElem?_append_left (show i<vs.length by omega)]
       rw[e];have B1:=(hvs i x).1.mono (s1.trans B.sub);exact⟨ka3 A4 B1 (kac _ _) (hvs i x).2,kbm B1 (by omega)⟩
      ·have ei:i=k:=by omega
       subst ei;have e:(vs++[w]).getD i .nilslice=w:=by simp[List.getD_eq_getElem?_getD,<-hvl]
       rw[e,<-hpd];exact⟨ka3 A4 B0 (kac _ _) dw,kbm B0 (by omega)⟩
     ·rcases Nat.lt_or_ge i k with x|x
      ·exact hce i x
      ·have ei:i=k:=by omega
       subst ei;rw[<-hpd];exact cc
   ·have c2:jaG d p=2:=by unfold jaG at cc|-;split at cc<;>first|exact absurd rfl cc|(rename_i h;rw[if_neg h])
    rw[c2];refine zs1 @jai.eq_1 ?_;have hne:¬∀p∈ps,jaG d p=0:=fun h=>cc (h _ (by rw[hpd];exact jam hk'));rw[pe,if_neg hne];exact⟨_,[],rfl,A.sub.trans s1,fun h=>by cases h⟩
  ·have ek:k=ps.length:=by omega
   subst ek;have hall:∀p∈ps,jaG d p=0:=fun p hp=>by
    obtain⟨i,hi,rfl⟩:=List.mem_iff_getElem.1 hp;have:=hce i hi
    rwa [List.getD_eq_getElem?_getD,List.getElem?_eq_getElem hi]at this
   rw[pe,if_pos hall];refine zs ?_;exact⟨_,vs,rfl,A.sub,fun _=>⟨⟨A.sl,hvl,fun i hi=>by rw[Int.toNat_natCast];exact(hvs i hi).1.ri⟩,fun i hi=>(hvs i hi).1⟩⟩
 ·have pe:jaA d o ps=2:=by unfold jaA;rw[if_neg (fun h=>ck h.1)]
  have ck2:jax d o=2:=by unfold jax at ck|-;split at ck<;>first|exact absurd rfl ck|(rename_i h;rw[if_neg h])
  rw[pe];refine zf 142 B142 hC ?_;simp only[B142,zB];refine zs ?_;refine kaa (jb8 hC hd ho) ?_;rw[ck2];refine zs ?_;exact⟨_,[],rfl,kag _⟩
theorem jlG(hC:Has C TA){d o:Int}{vp:AV}{ps:List Int}{h:Heap}(hd:In64 d)(ho:In64 o)(hp:RI h vp ps)(hx:∀x∈ps,In64 x)(hpl:ps.length<=1000):
  ACalls C 142 [.int .i64 d,.int .i64 o,vp] h (fun r h'=>∃v vs,r=jai v (jaA d o ps)/\HSub h h'/\(jaA d o ps=0->CLs h' v d o ps vs)):=
 (jf3 hC hd ho hp hx hpl).mono fun _ _ ⟨v,vs,q1,q2,q3⟩=>⟨v,vs,q1,q2,fun e=>(q3 e).1⟩
theorem jn1(d p:Int){o:Nat}(ho:1<=o):∀k,k<=lenN d->sampP d p o k=(List.range (k*o)).map fun i=>(codeL d p).getD (i/o) 0
 |0,_=>by simp[sampP]
 |k+1,h=>by
  have hl:=jaM d p;rw[jgE (by omega),jn1 d p ho k (by omega),Nat.add_mul,Nat.one_mul,List.range_add,List.map_append];congr 1;rw[List.map_map];refine List.ext_getElem (by simp) fun i h1 h2=>?_;have hi:i<o:=by simpa using h1
  simp only[List.getElem_replicate,List.getElem_map,List.getElem_range,Function.comp];rw[Nat.mul_comm k o,Nat.mul_add_div (by omega),Nat.div_eq_of_lt hi,Nat.add_zero]
theorem jsg(d p:Int){o:Nat}(ho:1<=o):sampL d p o=(List.range (lenN d*o)).map fun i=>(codeL d p).getD (i/o) 0:=by
 rw[<-jgF,jaM,jn1 d p ho _ (Nat.le_refl _)]
theorem jih(d o p:Int):jaA d o [p]=if jax d o=0/\jaG d p=0 then 0 else 2:=by simp[jaA]
theorem jkp(hC:Has C TA){d o p:Int}{h:Heap}(hd:In64 d)(ho:In64 o)(hp:In64 p):
  ACalls C 131 [.int .i64 d,.int .i64 o,.int .i64 p] h (fun r h'=>∃v,r=jai v (jaA d o [p])/\HSub h h'/\RI h' v (if jaA d o [p]=0 then sampL d p o.toNat else[])):=by
 have hsd:=fun(h:Heap) (i:Nat) (hg:h.get i=some (.cells [.int .i64 p] true 0))=>jlG hC (vp:=.slice i 0 1 (.known 1)) (ps:=[p]) (h:=h) hd ho (kah hg ⟨rfl,by decide⟩ (by decide)) (by simpa using hp) (by simp);refine zf 131 B131 hC ?_;simp only[B131,zB];refine zs ?_;refine kad (hsd _ _ (get_push_eq rfl)) ?_;rintro r h1 ⟨v,vs,rfl,s1,hcl⟩;by_cases c:jaA d o [p]=0
 ·have cl:=hcl c;rw[c,if_pos rfl];obtain⟨w,rfl⟩:∃w,vs=[w]:=by
   have:=cl.len
   match vs,this with
   |[w],_=>exact⟨w,rfl⟩
  have ld:=cl.sl.loadE (k:=0) (off:=0) (by simp) (by decide);rw[show(jbL [w] o)[0*2+0]? =some w from rfl]at ld;have ix:idxA 2 v (.int .i64 0)=some (elA 2 v 0):=cl.sl.idx (k:=0) (by simp);have fx:jb4 0 (elA 2 v 0)=some (elF 2 v 0 0):=cl.sl.fldE 0 0 (by simp);refine zs4 @jai.eq_1 ix fx ld ?_;exact⟨_,rfl,(kac _ _).trans s1,cl.ri 0 (by simp)⟩
 ·have e2:jaA d o [p]=2:=by unfold jaA at c|-;split at c<;>first|exact absurd rfl c|(rename_i h;rw[if_neg h])
  rw[e2,if_neg (by decide)];refine zs1 @jai.eq_1 ?_;exact⟨_,rfl,(kac _ _).trans s1,kav⟩
def pf(a b:List Int)(m s:Int):Nat->Int
 |0=>0
 |k+1=>pf a b m s k+a.getD k 0*b.getD (min ((k:Int)-m+a.length+s) ((a.length:Int)-1)).toNat 0
def ps(a b:List Int)(m:Nat):Nat->Int
 |0=>0
 |k+1=>ps a b m k+a.getD (m+k) 0*b.getD k 0
def one1(l:List Int):Prop:=∀x∈l,-1<=x/\x<=1
theorem one1.get(h:one1 l)(i:Nat): -1<=l.getD i 0/\l.getD i 0<=1:=by
 by_cases c:i<l.length
 ·exact h _ (jam c)
 ·rw[List.getD_eq_getElem?_getD,List.getElem?_eq_none (by omega)];decide
theorem jeV{x y:Int}(hx: -1<=x/\x<=1)(hy: -1<=y/\y<=1): -1<=x*y/\x*y<=1:=by
 have h:x= -1\/x=0\/x=1:=by omega
 rcases h with rfl|rfl|rfl<;>omega
theorem pf_le{a b:List Int}{m s:Int}(ha:one1 a)(hb:one1 b):∀k:Nat,-(k:Int)<=pf a b m s k/\pf a b m s k<=k
 |0=>by simp[pf]
 |k+1=>by
  have ih:=pf_le ha hb (m:=m) (s:=s) k;have:=jeV (ha.get k) (hb.get (min ((k:Int)-m+a.length+s) ((a.length:Int)-1)).toNat);rw[pf];omega
theorem ps_le{a b:List Int}{m:Nat}(ha:one1 a)(hb:one1 b):∀k:Nat,-(k:Int)<=ps a b m k/\ps a b m k<=k
 |0=>by simp[ps]
 |k+1=>by
  have ih:=ps_le ha hb (m:=m) k;have:=jeV (ha.get (m+k)) (hb.get k);rw[ps];omega
def plc(a b:List Int)(s:Int)(m:Nat):Int:=max (pf a b m s m) (-pf a b m s m)+max (ps a b m (a.length-m)) (-ps a b m (a.length-m))
theorem jux{a b:List Int}(ha:one1 a)(hb:one1 b){s:Int}{m:Nat}(hm:m<=a.length):0<=plc a b s m/\plc a b s m<=a.length:=by
 have h1:=pf_le ha hb (m:=m) (s:=s) m;have h2:=ps_le ha hb (m:=m) (a.length-m);unfold plc;omega
def gM(a b:List Int)(s:Int)(lo:Nat):Nat->Int->Int
 |0,x=>x
 |k+1,x=>max (gM a b s lo k x) (plc a b s (lo+k))
def lastM(n:Nat)(mg s:Int):Int:=if 0<mg then n+s-mg else n+min s 0
def cntM(n:Nat)(mg s:Int):Nat:=(lastM n mg s+1-mg).toNat
def greatI(a b:List Int)(mg:Nat):Int:=gM a b 1 mg (cntM a.length mg 1) (gM a b 0 mg (cntM a.length mg 0) (gM a b (-1) mg (cntM a.length mg (-1)) 0))
theorem gM_le{a b:List Int}(ha:one1 a)(hb:one1 b){s:Int}{lo:Nat}:∀(k:Nat) (x:Int),lo+k<=a.length+1->0<=x/\x<=a.length->0<=gM a b s lo k x/\gM a b s lo k x<=a.length
 |0,x,_,hx=>hx
 |k+1,x,hk,hx=>by
  have ih:=gM_le ha hb (s:=s) (lo:=lo) k x (by omega) hx;have:=jux ha hb (s:=s) (m:=lo+k) (by omega);rw[gM];omega
theorem jaZ(d p:Int)(o:Nat):one1 (sampL d p o):=by
 intro x hx;unfold sampL at hx;obtain⟨l,hl,hxl⟩:=List.mem_flatten.1 hx;obtain⟨y,hy,rfl⟩:=List.mem_map.1 hl;have:=jmO y hy;rw[(List.mem_replicate.1 hxl).2];exact this
def inS(B:Int)(x:Int×Int):Prop:=(-B<=x.1/\x.1<=B)/\(-B<=x.2/\x.2<=B)
instance (B:Int) (x:Int×Int):Decidable (inS B x):=by unfold inS;exact inferInstance
def addP(x y:Int×Int):Int×Int:=(x.1+y.1,x.2+y.2)
def powP(x:Int×Int):Int:=IntKind.i64.wrap (IntKind.i64.wrap (x.1*x.1)+IntKind.i64.wrap (x.2*x.2))
def smE(l:List (Int×Int))(most:Nat):Int:=if most<l.length then 4 else if ∀x∈l,inS 1048576 x then 0 else 2
def spinK(l:List (Int×Int))(st:Int):Nat->Int×Int
 |0=>(0,0)
 |k+1=>addP (spinK l st k) (mixP (l.getD k (0,0)) (carP (phI 0 st k)))
theorem juy{x t:Int×Int}{B:Int}(hx:inS B x)(ht: -127<=t.1/\t.1<=127/\ -127<=t.2/\t.2<=127):inS (2*(B*127)) (mixP x t):=by
 have a1:=jbE hx.1 ⟨ht.1,ht.2.1⟩;have a2:=jbE hx.2 ⟨ht.2.2.1,ht.2.2.2⟩;have a3:=jbE hx.2 ⟨ht.1,ht.2.1⟩;have a4:=jbE hx.1 ⟨ht.2.2.1,ht.2.2.2⟩;unfold inS mixP;simp only;omega
theorem jkq{l:List (Int×Int)}{st:Int}(h:∀x∈l,inS 1048576 x):∀k:Nat,k<=l.length->inS (k*266338304) (spinK l st k)
 |0,_=>by simp[inS,spinK]
 |k+1,hk=>by
  have ih:=jkq (st:=st) h k (by omega);have hm:=juy (h _ (jcg (l:=l) (k:=k) (by omega))) (jkf (jeb 0 st k));rw[spinK];unfold inS addP at*;simp only;omega
def stepP(l:List (Int×Int))(bins:Int)(j:Nat):Int:=powP (spinK l ((j:Int)*(4294967296/bins)% 4294967296) l.length)
def jdM(l:List (Int×Int))(bins:Int)(k:Nat):List Int:=(List.range k).map fun j=>stepP l bins j
theorem jch(l:List (Int×Int))(bins:Int)(k:Nat):(jdM l bins k).length=k:=by simp[jdM]
theorem jmQ(l:List (Int×Int))(bins:Int)(k:Nat):jdM l bins (k+1)=jdM l bins k++[stepP l bins k]:=by simp[jdM,List.range_succ]
def jcJ(b:Int):Prop:=b=1\/b=2\/b=4\/b=8\/b=16\/b=32\/b=64
instance (b:Int):Decidable (jcJ b):=by unfold jcJ;exact inferInstance
def je6(l:List (Int×Int))(b:Int):Int:=if smE l 16≠0 then smE l 16 else if jcJ b then 0 else 3
def atP(s:List (Int×Int))(i:Int):Int×Int:=if i<0\/(s.length:Int)<=i then(0,0)else s.getD i.toNat (0,0)
def mulP(x:Int×Int)(c:Int):Int×Int:=(x.1*c,x.2*c)
def sumK(s:List (Int×Int))(c:List Int)(a:Int):Nat->Int×Int
 |0=>(0,0)
 |k+1=>addP (sumK s c a k) (mulP (atP s (a+(k:Nat))) (c.getD k 0))
def sumP(s:List (Int×Int))(c:List Int)(a:Int):Int×Int:=sumK s c a c.length
theorem jhs{A B:Int}{x:Int×Int}(h:inS A x)(hB:A<=B):inS B x:=by unfold inS at*;omega
theorem jkr{A B:Int}{x y:Int×Int}(h:inS A x)(h':inS B y):inS (A+B) (addP x y):=by unfold inS addP at*;simp only;omega
theorem jtj(h:∀x∈s,inS 127 x)(i:Int):inS 127 (atP s i):=by
 unfold atP;split
 ·unfold inS;simp
 ·exact h _ (jcg (by omega))
theorem mul_one{x c B:Int}(hx: -B<=x/\x<=B)(hc: -1<=c/\c<=1): -B<=x*c/\x*c<=B:=by
 rcases(show c= -1\/c=0\/c=1 by omega)with rfl|rfl|rfl<;>omega
theorem jqC{x:Int×Int}{c B:Int}(hx:inS B x)(hc: -1<=c/\c<=1):inS B (mulP x c):=⟨mul_one hx.1 hc,mul_one hx.2 hc⟩
theorem jmR{s:List (Int×Int)}{c:List Int}{a:Int}(hs:∀x∈s,inS 127 x)(hc:one1 c):∀k:Nat,inS (127*k) (sumK s c a k)
 |0=>by unfold inS sumK;simp
 |k+1=>by
  have:=jkr (jmR (a:=a) hs hc k) (jqC (jtj hs (a+(k:Nat))) (hc.get k));rw[sumK];exact jhs this (by omega)
def bankErr(s:List (Int×Int))(d o p a:Int):Int:=if 1048576<s.length then 4 else if ¬∀x∈s,inS 127 x then 2 else if jaA d o [p]≠0 then 2 else if a< -2000000\/2000000<a then 2 else 0
def manyE(e many most:Int):Int:=if e≠0 then e else if many<0\/most<many then 2 else 0
def bankL(s:List (Int×Int))(c:List Int)(a w:Int)(k:Nat):List (Int×Int):=(List.range k).map fun j=>sumP s c (a+(j:Nat)*w)
theorem jbm(s:List (Int×Int))(c:List Int)(a w:Int)(k:Nat):(bankL s c a w k).length=k:=by simp[bankL]
theorem jo1(s:List (Int×Int))(c:List Int)(a w:Int)(k:Nat):bankL s c a w (k+1)=bankL s c a w k++[sumP s c (a+(k:Nat)*w)]:=by simp[bankL,List.range_succ]
theorem jii{c:List Int}{w:Int}{m k:Nat}(h:k<m):(bankL s c a w k++List.replicate (m-k) (0,0)).set k (sumP s c (a+(k:Nat)*w))=bankL s c a w (k+1)++List.replicate (m-(k+1)) (0,0):=by
 rw[List.set_append_right _ _ (by rw[jbm];omega),jbm,Nat.sub_self,show m-k=m-(k+1)+1 by omega,List.replicate_succ,List.set_cons_zero,jo1,List.append_assoc];rfl
def qtN(p:Int×Int):Nat->Int×Int
 |0=>p
 |n+1=>(-(qtN p n).2,(qtN p n).1)
theorem jqD{p:Int×Int}(h:(-127<=p.1/\p.1<=127)/\ -127<=p.2/\p.2<=127):∀n,(-127<=(qtN p n).1/\(qtN p n).1<=127)/\ -127<=(qtN p n).2/\(qtN p n).2<=127
 |0=>h
 |n+1=>by have:=jqD h n;unfold qtN;dsimp only;omega
theorem jn2:∀k<64,carr k=qtN (quarterL.getD (k% 16) 0,quarterL.getD (16-k% 16) 0) (k/16):=by decide+kernel
theorem jeW:∀k<17,-127<=quarterL.getD k 0/\quarterL.getD k 0<=127:=by decide+kernel
theorem jlH(hC:Has C TA)(hb: -127<=b/\b<=127):ACalls C 153 [smp (a,b)] h (fun r h'=>r=smp (-b,a)/\h'=h):=by
 refine kae (P:=fun r h'=>r=smp (-b,a)/\HSub h h') ?_ (fun r h' hp=>⟨by rw[hp.1];exact jcz _,hp.2,hp.1,rfl⟩);unfold smp;refine zf 153 B153 hC ?_;simp only[B153,zB];refine zs ?_;exact⟨by rw[Int.zero_sub],zr⟩
theorem jmS(hC:Has C TA){p:Int×Int}{n:Nat}(hp:(-127<=p.1/\p.1<=127)/\ -127<=p.2/\p.2<=127)(hn:n<4):ACalls C 152 [smp p,.int .i64 (n:Nat)] h (fun r h'=>r=smp (qtN p n)/\h'=h):=by
 refine kae (P:=fun r h'=>r=smp (qtN p n)/\HSub h h') ?_ (fun r h' hp=>⟨by rw[hp.1];exact jcz _,hp.2,hp.1,rfl⟩);have ba:∀k a b,binA .and (.int k a) (.int k b)=some (.int k (bitsA .and k a b)):=fun k a b=>by simp[binA,jbJ]
 have b3:bitsA .and .i64 (n:Int) 3=(n:Nat):=(show ∀n<4,bitsA .and .i64 ((n:Nat):Int) 3=(n:Nat)by decide) n hn;refine zf 152 B152 hC ?_;simp only[B152,zB];refine zs2 ba b3 ?_;refine jae (fun j t H=>∃k:Nat,H.get h.size=some (.cells [.int .i64 (qtN p k).1,.int .i64 (qtN p k).2] true 0)/\(∃b,H.get (h.size+1)=some (.cells b true 0)/\b.length=2)/\HSub h H/\t 2=.ptr h.size 0/\t 4=.ptr (h.size+1) 0/\t 6=.int .i64 (n:Nat)/\t 7=.int .i64 (k:Nat)/\k<=n/\j=n-k) (j0:=n)
  ⟨0,by refine zs ?_;rfl,⟨_,by refine zs ?_;rfl,rfl⟩,zr,rfl,rfl,rfl,rfl,by omega,rfl⟩ ?_
 rintro j t H ⟨k,g,⟨b,gb,lb⟩,hH,e2,e4,e6,e7,hk,hj⟩;have l1:=kab g;have l2:=kab gb;have r:=jqD hp k;refine zs2 e6 e7 ?_;refine kaf (fun c=>?_) (fun c=>?_)
 ·have K:=fun H'=>jlH hC (h:=H') (a:=(qtN p k).1) r.2;unfold smp at K;refine zs2 e2 g ?_;refine kaa (K _) (zs6 e2 e4 e6 e7 g gb ?_);exact⟨_,⟨k+1,rfl,⟨b,by exact ze1 gb,lb⟩,(zh hH),by simp,by omega,rfl⟩,by omega⟩
 ·have:k=n:=by omega
  subst this;refine zs4 e2 e4 g gb ?_;exact⟨rfl,(zh hH)⟩
theorem jij(hC:Has C TA):ACalls C 151 [] h (fun r h'=>r=.agg (ints quarterL)/\h'=h):=by
 refine kae (P:=fun r h'=>r=.agg (ints quarterL)/\HSub h h') ?_ (fun r h' hp=>⟨by rw[hp.1];simp[AV.free,AV.bel,kar,ints,quarterL],hp.2,hp.1,rfl⟩);refine zf 151 B151 hC ?_;simp only[B151,zB];simp-implicitDefEqProofs (disch:=first|exact zd|fail) only[↓wpPre,jbx,jby,Int.reduceToNat,Int.reducePow,Int.reduceMul,Int.reduceAdd,Int.reduceSub,Int.reduceNeg,Nat.reduceAdd,Nat.reduceMul,Nat.reducePow,Int.reduceLT,Int.reduceLE,Int.reduceEq,Nat.reduceEqDiff,(Nat.add_zero 0)];exact⟨rfl,zr⟩
theorem jo2(hC:Has C TA){k:Nat}(hk:k<64):ACalls C 146 [.int .i64 (k:Nat)] h (fun r h'=>r=smp (carr k)/\h'=h):=by
 refine kae (P:=fun r h'=>r=smp (carr k)/\HSub h h') ?_ (fun r h' hp=>⟨by rw[hp.1];exact jcz _,hp.2,hp.1,rfl⟩);have ba:∀k a b,binA .and (.int k a) (.int k b)=some (.int k (bitsA .and k a b)):=fun k a b=>by simp[binA,jbJ]
 have b3:bitsA .and .i64 (k:Int) 63=(k:Nat):=(show ∀n<64,bitsA .and .i64 ((n:Nat):Int) 63=(n:Nat)by decide) k hk;have e1:(k:Int)% 16=(k% 16:Nat):=by omega
 have e2:(16:Int)-(k% 16:Nat)=(16-k% 16:Nat):=by omega
 have e3:(k:Int)/16=(k/16:Nat):=by omega
 have K:=fun H=>jij hC (h:=H);have R:=fun H=>jmS hC (p:=(quarterL.getD (k% 16) 0,quarterL.getD (16-k% 16) 0)) (n:=k/16) (h:=H) ⟨jeW _ (by omega),jeW _ (by omega)⟩ (by omega);rw[<-jn2 k hk]at R;unfold smp at*;generalize carr k=z at*;have lq:(ints quarterL).length=17:=rfl;have gq:∀j<17,(ints quarterL)[j]? =some (.int .i64 (quarterL.getD j 0)):=fun j hj=>ints_get hj;have sB:∀(H:Heap) (i:Nat) (b:List AV),b.length=17->jdj H i 17 0 (.agg (ints quarterL)) (some (.cells b true 0))=some (H.put i (.cells (ints quarterL) true 0)):=fun H i b hb=>by
  have sp:splice b 0 (ints quarterL)=ints quarterL:=by
   show[]++ints quarterL++b.drop 17=_;rw[List.drop_eq_nil_of_le (by omega),List.append_nil];rfl
  exact(storeB_agg lq (by omega) (by rfl)).trans (by rw[sp])
 generalize quarterL=q at*;refine zf 146 B146 hC ?_;simp only[B146,zB];refine zs2 ba b3 ?_;refine kaa (K _) (zs6 sB e1 e2 e3 gq lq ?_);refine kaa (R _) (zs ?_);exact zr
theorem jik(hC:Has C TA):ACalls C 149 [] h (fun r h'=>HSub h h'/\RI h' r quarterL):=by
 refine zf 149 B149 hC ?_;simp only[B149,zB];simp-implicitDefEqProofs (disch:=first|exact zd|fail) only[↓wpPre,jbx,jby,Int.reduceToNat,Int.reducePow,Int.reduceMul,Int.reduceAdd,Int.reduceSub,Int.reduceNeg,Nat.reduceAdd,Nat.reduceMul,Nat.reducePow,Int.reduceLT,Int.reduceLE,Int.reduceEq,Nat.reduceEqDiff,(Nat.add_zero 0)];exact⟨zr,kah (wr:=true) (u:=0) (l:=quarterL) (get_push_eq rfl) ⟨rfl,by decide⟩ (Nat.le_refl _)⟩
theorem jmT(hC:Has C TA){k:Nat}(hk:k<64):ACalls C 141 [.int .i64 (k:Nat)] h (fun r h'=>r=smp (carr k)/\h'=h):=by
 refine kae (P:=fun r h'=>r=smp (carr k)/\HSub h h') ?_ (fun r h' hp=>⟨by rw[hp.1];exact jcz _,hp.2,hp.1,rfl⟩);have ba:∀k a b,binA .and (.int k a) (.int k b)=some (.int k (bitsA .and k a b)):=fun k a b=>by simp[binA,jbJ]
 have b3:bitsA .and .i64 (k:Int) 63=(k:Nat):=(show ∀n<64,bitsA .and .i64 ((n:Nat):Int) 63=(n:Nat)by decide) k hk;have e1:(k:Int)% 16=(k% 16:Nat):=by omega
 have e2:(16:Int)-(k% 16:Nat)=(16-k% 16:Nat):=by omega
 have K:=fun H=>jik hC (h:=H);have ri:=fun j=>jqD (p:=(quarterL.getD (k% 16) 0,quarterL.getD (16-k% 16) 0)) ⟨jeW (k% 16) (by omega),jeW (16-k% 16) (by omega)⟩ j;rw[jn2 k hk];have lq:quarterL.length=17:=rfl;generalize hp:(quarterL.getD (k% 16) 0,quarterL.getD (16-k% 16) 0)=p at*;unfold smp;generalize quarterL=q at*;refine zf 141 B141 hC ?_;simp only[B141,zB];refine zs2 ba b3 ?_;refine kad (K _) ?_;rintro v h1 ⟨s1,Q⟩;have z1:=s1.size;simp only[Heap.size_push]at z1;have g2:=s1.get h.size (by simp);rw[get_push_eq rfl]at g2;have hw:h1.get (h1.size+12)=none:=h1.wf _ (by omega)
 refine zs6 e1 e2 @Q.idx @Q.load @Q.loadC hw ?_;have hx:=congrArg Prod.fst hp;have hy:=congrArg Prod.snd hp;dsimp only at hx hy;rw[hx,hy];clear hx hy hp K Q;have s2:HSub h ((h1.reserve 14).put (h1.size+12) (.cells [.int .i64 p.1,.int .i64 p.2] true 0)):=(zh ((kac h _).trans s1));have gN:((h1.reserve 14).put (h1.size+12) (.cells [.int .i64 p.1,.int .i64 p.2] true 0)).get h.size=some (.cells [.int .i64 0,.int .i64 0] true 0):=by exact ze1 g2
 refine jae (fun j t H=>∃i:Nat,H.get (h1.size+12)=some (.cells [.int .i64 (qtN p i).1,.int .i64 (qtN p i).2] true 0)/\H.get h.size=some (.cells [.int .i64 0,.int .i64 0] true 0)/\HSub h H/\t 2=.ptr h.size 0/\t 4=.ptr (h1.size+12) 0/\t 0=.int .i64 ((k-16*i:Nat):Int)/\16*i<=k/\j=k-16*i) (j0:=k)
  ⟨0,get_put_eq rfl (by simp only[Heap.size_reserve];omega),gN,s2,rfl,rfl,rfl,by omega,rfl⟩ ?_
 rintro j t H ⟨i,g,gb,hH,e2,e4,e0,hi,hj⟩;have l1:=kab g;have l2:=kab gb;have r:=ri i;have b0:h.size<=h1.size:=by omega
 refine zs1 e0 ?_;refine kaf (fun c=>?_) (fun c=>?_)
 ·have em:((k-16*i:Nat):Int)-16=((k-16*(i+1):Nat):Int):=by omega
  refine zs5 e0 e2 e4 g em ?_;exact⟨_,⟨i+1,by rw[Int.zero_sub];rfl,by exact ze1 gb,(zh hH),rfl,by omega,rfl⟩,by omega⟩
 ·have:i=k/16:=by omega
  subst this;refine zs4 e2 e4 g gb ?_;exact(zh hH)
theorem jlI(hC:Has C TA){ph:Int}(hp:U32 ph):ACalls C 135 [.int .u32 ph] h (fun r h'=>r=smp (carP ph)/\h'=h):=by
 refine kae (P:=fun r h'=>r=smp (carP ph)/\HSub h h') ?_ (fun r h' hp=>⟨by rw[hp.1];exact jcz _,hp.2,hp.1,rfl⟩);unfold U32 at hp;unfold carP;obtain⟨k,hk⟩:=Int.eq_ofNat_of_zero_le (show 0<=ph/67108864 by omega);rw[hk,Int.toNat_natCast];have hk':k<64:=by omega
 refine zf 135 B135 hC ?_;simp only[B135,zB];refine zs1 hk ?_;refine kaa (jo2 hC hk') (zs1 @smp.eq_1 ?_);exact kac _ _
theorem jks(hC:Has C TA){ph:Int}(hp:U32 ph):ACalls C 130 [.int .u32 ph] h (fun r h'=>r=smp (carP ph)/\h'=h):=by
 refine kae (P:=fun r h'=>r=smp (carP ph)/\HSub h h') ?_ (fun r h' hp=>⟨by rw[hp.1];exact jcz _,hp.2,hp.1,rfl⟩);unfold U32 at hp;unfold carP;obtain⟨k,hk⟩:=Int.eq_ofNat_of_zero_le (show 0<=ph/67108864 by omega);rw[hk,Int.toNat_natCast];have hk':k<64:=by omega
 refine zf 130 B130 hC ?_;simp only[B130,zB];refine zs1 hk ?_;refine kaa (jmT hC hk') (zs1 @smp.eq_1 ?_);exact kac _ _
def KnownCap(v:AV):Prop:=v=.nilslice\/∃i o n c,v=.slice i o n (.known c)
def wipeE(p:Int×Int)(ph:Int):AV:=if je4 p then .tuple [smp (mixP p (carP ph)),.int .i64 0]else .tuple [smp (0,0),.int .i64 2]
theorem jo3(p:Int×Int)(ph:Int):(wipeE p ph).free:=by
 unfold wipeE;split<;>exact jcX (by simp[smp,AV.free,AV.bel,kar])
theorem jkt(hC:Has C TA){p:Int×Int}:ACalls C 147 [smp p] h (fun r h'=>r=.bool (decide (je4 p))/\h'=h):=by
 refine kae (P:=fun r h'=>r=.bool (decide (je4 p))/\HSub h h') ?_ (fun r h' hp=>⟨by rw[hp.1];trivial,hp.2,hp.1,rfl⟩);obtain⟨x,y⟩:=p;unfold smp je4;refine zf 147 B147 hC ?_;simp only[B147,zB];refine zs ?_
 (repeat' (first|(refine kaf (fun _=>?_) (fun _=>?_))|(refine zs ?_)))
 all_goals first
  |exact⟨by congr 1;apply decide_eq_decide.2;constructor<;>intro q<;>omega,kac _ _⟩
  |(refine⟨?_,kac _ _⟩;congr 1;first|(rw[eq_comm];apply decide_eq_false;omega)|(rw[eq_comm];apply decide_eq_true;omega))
theorem jqE(hC:Has C TA){p:Int×Int}{ph:Int}(hp:U32 ph):ACalls C 137 [smp p,.int .u32 ph] h (fun r h'=>r=wipeE p ph/\h'=h):=by
 refine kae (P:=fun r h'=>r=wipeE p ph/\HSub h h') ?_ (fun r h' hp=>⟨by rw[hp.1];exact jo3 _ _,hp.2,hp.1,rfl⟩);have hc:=jkf hp;have hsm:=fun h=>jkt (p:=p) (h:=h) hC;have hca:=fun h=>jlI (h:=h) hC hp;unfold wipeE;obtain⟨x,y⟩:=p;generalize carP ph=q at hc hca|-;obtain⟨u,w⟩:=q;unfold smp at hsm hca|-;by_cases c:je4 (x,y)
 ·rw[if_pos c];have c':=c;unfold je4 at c';have m1:=jbE c'.1 ⟨hc.1,hc.2.1⟩;have m2:=jbE c'.2 ⟨hc.2.2.1,hc.2.2.2⟩;have m3:=jbE c'.2 ⟨hc.1,hc.2.1⟩;have m4:=jbE c'.1 ⟨hc.2.2.1,hc.2.2.2⟩;simp only at m1 m2 m3 m4 c';refine zf 137 B137 hC ?_;simp only[B137,zB];refine zs ?_;refine kaa (hsm _) (zs ?_);refine kaa (hca _) (zs ?_);exact⟨rfl,((kac _ _).push _).push _⟩
 ·rw[if_neg c];refine zf 137 B137 hC ?_;simp only[B137,zB];refine zs ?_;refine kaa (hsm _) (zs ?_);exact(kac _ _).push _
theorem jil(hC:Has C TA){p:Int×Int}{B:Int}(hB:0<=B/\B<=4294967296):ACalls C 300 [smp p,.int .i64 B] h (fun r h'=>r=.bool (decide (inS B p))/\h'=h):=by
 refine kae (P:=fun r h'=>r=.bool (decide (inS B p))/\HSub h h') ?_ (fun r h' hp=>⟨by rw[hp.1];trivial,hp.2,hp.1,rfl⟩);obtain⟨x,y⟩:=p;unfold smp inS;refine zf 300 B300 hC ?_;simp only[B300,zB];refine zs ?_
 (repeat' (first|(refine kaf (fun _=>?_) (fun _=>?_))|(refine zs ?_)))
 all_goals first
  |exact⟨by congr 1;apply decide_eq_decide.2;constructor<;>intro q<;>omega,kac _ _⟩
  |(refine⟨?_,kac _ _⟩;congr 1;first|(rw[eq_comm];apply decide_eq_false;omega)|(rw[eq_comm];apply decide_eq_true;omega))
theorem jmU(hC:Has C TA){p:Int×Int}:ACalls C 299 [smp p] h (fun r h'=>r=.bool (!decide (inS 1048576 p))/\h'=h):=by
 refine kae (P:=fun r h'=>r=.bool (!decide (inS 1048576 p))/\HSub h h') ?_ (fun r h' hp=>⟨by rw[hp.1];trivial,hp.2,hp.1,rfl⟩);have hI:=fun h=>jil (p:=p) (B:=1048576) (h:=h) hC (by omega);obtain⟨x,y⟩:=p;unfold smp at hI|-;refine zf 299 B299 hC ?_;simp only[B299,zB];refine zs ?_;refine kaa (hI _) (zs ?_);exact kac _ _
theorem jmV(hC:Has C TA){p:Int×Int}:ACalls C 302 [smp p] h (fun r h'=>r=.bool (!decide (inS 127 p))/\h'=h):=by
 refine kae (P:=fun r h'=>r=.bool (!decide (inS 127 p))/\HSub h h') ?_ (fun r h' hp=>⟨by rw[hp.1];trivial,hp.2,hp.1,rfl⟩);have hI:=fun h=>jil (p:=p) (B:=127) (h:=h) hC (by omega);obtain⟨x,y⟩:=p;unfold smp at hI|-;refine zf 302 B302 hC ?_;simp only[B302,zB];refine zs ?_;refine kaa (hI _) (zs ?_);exact kac _ _
theorem je7(hC:Has C TA){v:AV}{l:List (Int×Int)}{g:Nat}{P:Int×Int->Prop} [DecidablePred P] {h:Heap} (hg:∀p h,ACalls C g [smp p] h (fun r h'=>r=.bool (!decide (P p))/\h'=h)) (hl:SI h v l):
  ACalls C 255 [v,.func g [] []] h (fun r h'=>r=.bool (!decide (∀x∈l,P x))/\h'=h):=by
 have hlt:=hl.lt;have hI:ACalls C 260 [v,.func g [] []] h (fun r h'=>(∃i:Int,r=.int .i64 i/\ -1<=i/\(0<=i↔¬∀x∈l,P x))/\h'=h):=by
  have hC':Has C TA:=hC;have hC:=hC';refine zf 260 B260 hC ?_;simp only[B260,zB];refine zs1 @hl.len ?_;refine jae (fun j t h'=>h'=h/\∃k:Nat,t 0=v/\t 1=.func g [] []/\t 7=.int .i64 (l.length:Nat)/\t 8=.int .i64 (k:Nat)/\(∀i,i<k->P (l.getD i (0,0)))/\k<=l.length/\j=l.length-k) (j0:=l.length)
   ⟨rfl,0,rfl,rfl,rfl,rfl,fun i hi=>by omega,by omega,rfl⟩ ?_
  rintro j t h1 ⟨rfl,k,e0,e1,e7,e8,hp,hk,hj⟩;refine zs2 e7 e8 ?_;refine kaf (fun c=>?_) (fun c=>?_)
  ·have hk':k<l.length:=by omega
   have ld:=hl.loadA hk';refine zs5 e0 e1 e8 @hl.idx ld ?_;refine kaa (hg _ _) ?_;by_cases c2:P (l.getD k (0,0))
   ·refine zs5 @c2 e0 e1 e7 e8 ?_;refine⟨_,⟨k+1,by simp,fun i hi=>?_,by omega,rfl⟩,by omega⟩;rcases Nat.lt_or_ge i k with x|x
    ·exact hp i x
    ·have:i=k:=by omega
     subst this;exact c2
   ·refine zs5 @c2 e0 e1 e7 e8 ?_;refine⟨by omega,⟨fun _ q=>c2 (q _ (jcg hk')),fun _=>by omega⟩⟩
  ·have ek:k=l.length:=by omega
   refine zs ?_;refine⟨fun q=>q.elim,fun q=>absurd (fun x hx=>?_) q⟩;obtain⟨i,hi,rfl⟩:=List.getElem_of_mem hx;have:=hp i (by omega)
   rwa [List.getD_eq_getElem?_getD,List.getElem?_eq_getElem hi]at this
 refine zf 255 B255 hC ?_;simp only[B255,zB];refine zs ?_;refine kad hI ?_;rintro r h1 ⟨⟨i,rfl,h1,h2⟩,rfl⟩;refine zs ?_;by_cases c:∀x∈l,P x
 ·rw[decide_eq_true c];have:¬0<=i:=fun q=>h2.1 q c;simp[this]
 ·rw[decide_eq_false c];have:0<=i:=h2.2 c;simp[this]
theorem jo4(hC:Has C TA){v:AV}{l:List (Int×Int)}{most:Nat}(hl:SI h v l)(hm:most<=100000):ACalls C 285 [v,.int .i64 (most:Nat)] h (fun r h'=>r=.int .i64 (smE l most)/\h'=h):=by
 have hlt:=hl.lt;have hc:=je7 hC (g:=299) (P:=fun p=>inS 1048576 p) (fun p h=>jmU hC) hl;unfold smE;by_cases c:most<l.length
 ·rw[if_pos c];refine zf 285 B285 hC ?_;simp only[B285,zB];exact ze1 @hl.len
 ·rw[if_neg c];refine zf 285 B285 hC ?_;simp only[B285,zB];refine zs1 @hl.len ?_;refine kaa hc ?_;by_cases c2:∀x∈l,inS 1048576 x
  ·rw[decide_eq_true c2,if_pos c2];exact ze
  ·rw[decide_eq_false c2,if_neg c2];exact ze
theorem jo5(hC:Has C TA){p:Int×Int}:ACalls C 289 [smp p] h (fun r h'=>r=.int .i64 (powP p)/\h'=h):=by
 refine kae (P:=fun r h'=>r=.int .i64 (powP p)/\HSub h h') ?_ (fun r h' hp=>⟨by rw[hp.1];trivial,hp.2,hp.1,rfl⟩);obtain⟨x,y⟩:=p;unfold powP;unfold smp;refine zf 289 B289 hC ?_;simp only[B289,zB];refine zs ?_;exact kac _ _
theorem jqF(hC:Has C TA){w:AV}{o i:Int}(hl:RI h w l)(hi:0<=i)(h1:1<=l.length)(hi2:i<=1000000000):ACalls C 154 [.agg [w,.int .i64 o],.int .i64 i] h (fun r h'=>r=.int .i64 (l.getD (min i ((l.length:Int)-1)).toNat 0)/\h'=h):=by
 refine kae (P:=fun r h'=>r=.int .i64 (l.getD (min i ((l.length:Int)-1)).toNat 0)/\HSub h h') ?_ (fun r h' hp=>⟨by rw[hp.1];trivial,hp.2,hp.1,rfl⟩);have hlt:=hl.lt;have c0:=hl.cells;have o0:=hl.one;have ld:=(hl.mono (kac h (.cells [w,.int .i64 o] true 0))).load (k:=(min i ((l.length:Int)-1)).toNat) (by omega);refine zf 154 B154 hC ?_;simp only[B154,zB];refine zs3 @hl.len @hl.idx ld ?_;exact kac _ _
def tupPP(x y:Int):AV:=.tuple [.int .i64 x,.int .i64 y]
theorem jo6(hC:Has C TA){w1 w2:AV}{a b:List Int}{o1 o2 s:Int}{m:Nat}{h:Heap}(ha:RI h w1 a)(hb:RI h w2 b)(oa:one1 a)(ob:one1 b)(hl:a.length=b.length/\1<=a.length/\a.length<=10000)(hm:m<=a.length)(hs: -1<=s/\s<=1)(hms:(m:Int)<=a.length+s):
  ACalls C 180 [.agg [w1,.int .i64 o1],.agg [w2,.int .i64 o2],.int .i64 (m:Nat),.int .i64 s] h (fun r h'=>r=tupPP (pf a b m s m) (ps a b m (a.length-m))/\h'=h):=by
 refine kae (P:=fun r h'=>r=tupPP (pf a b m s m) (ps a b m (a.length-m))/\HSub h h') ?_ (fun r h' hp=>⟨by rw[hp.1];exact jcX (by simp[AV.free,AV.bel]),hp.2,hp.1,rfl⟩);have hlt:=ha.lt;have c0:=ha.cells;have o0:=ha.one;have c1:=hb.cells;have o1':=hb.one;have chp:=fun(h':Heap) (q:HSub h h') (i:Int) (x:0<=i) (y:i<=1000000000)=>jqF hC (o:=o2) (hb.mono q) x (by omega) y;refine zf 180 B180 hC ?_;simp only[B180,zB];refine zs1 @ha.len ?_;refine jae (fun j t h'=>h'=(h.push (.cells [w1,.int .i64 o1] true 0)).push (.cells [w2,.int .i64 o2] true 0)/\∃k:Nat,t 2=.int .i64 (m:Nat)/\t 3=.int .i64 s/\t 5=.ptr (h.size+1) 0/\t 8=.int .i64 (pf a b m s (min k m))/\t 9=.int .i64 (ps a b m (k-m))/\t 10=.int .i64 (a.length:Nat)/\t 17=w1/\t 18=.int .i64 (a.length:Nat)/\t 19=.int .i64 (k:Nat)/\k<=a.length/\j=a.length-k) (j0:=a.length)
  ⟨rfl,0,rfl,rfl,rfl,by rw[Nat.zero_min];rfl,by rw[Nat.zero_sub];rfl,rfl,rfl,rfl,rfl,by omega,rfl⟩ ?_
 rintro j t h' ⟨rfl,k,e2,e3,e5,e8,e9,e10,e17,e18,e19,hk,hj⟩;refine zs2 e18 e19 ?_;refine kaf (fun c=>?_) (fun c=>?_)
 ·have hk':k<a.length:=by omega
  have ld:=(ha.mono ((kac h (.cells [w1,.int .i64 o1] true 0)).push (.cells [w2,.int .i64 o2] true 0))).load hk';have p1:=pf_le oa ob (m:=m) (s:=s) (min k m);have p2:=ps_le oa ob (m:=m) (k-m);by_cases c2:k<m
  ·rw[Nat.min_eq_left (by omega)]at e8 p1;have q:=jeV (oa.get k) (ob.get (min ((k:Int)-m+a.length+s) ((a.length:Int)-1)).toNat);have nx:pf a b m s (k+1)=pf a b m s k+a.getD k 0*b.getD (min ((k:Int)-m+a.length+s) ((a.length:Int)-1)).toNat 0:=rfl;have ny:k+1-m=k-m:=by omega
   have cs:=chp _ ((kac h (.cells [w1,.int .i64 o1] true 0)).push (.cells [w2,.int .i64 o2] true 0)) ((k:Int)-m+a.length+s) (by omega) (by omega);rw[<-hl.1]at cs;refine zs7 e2 e3 e5 e8 e9 e10 (zI e17 (zI e19 (zI @ha.idx ld))) ?_;refine kaa cs (zs7 (Eq.symm nx) e8 e9 e2 e3 e5 (zI e10 (zI e17 (zI e18 e19))) ?_);exact⟨_,⟨k+1,by rw[Nat.min_eq_left (by omega)],by rw[ny],by simp,by omega,rfl⟩,by omega⟩
  ·have q:=jeV (oa.get k) (ob.get (k-m));have nx:min (k+1) m=min k m:=by omega
   have ny:ps a b m (k+1-m)=ps a b m (k-m)+a.getD k 0*b.getD (k-m) 0:=by
    rw[show k+1-m=(k-m)+1 by omega,ps,show m+(k-m)=k by omega]
   have cs:=chp _ ((kac h (.cells [w1,.int .i64 o1] true 0)).push (.cells [w2,.int .i64 o2] true 0)) ((k:Int)-m) (by omega) (by omega);rw[show(min ((k:Int)-m) ((b.length:Int)-1)).toNat=k-m by omega]at cs;refine zs7 e2 e3 e5 e8 e9 e10 (zI e17 (zI e19 (zI @ha.idx ld))) ?_;refine kaa cs (zs7 (Eq.symm ny) e8 e9 e2 e3 e5 (zI e10 (zI e17 (zI e18 e19))) ?_);exact⟨_,⟨k+1,by rw[nx],rfl,by simp,by omega,rfl⟩,by omega⟩
 ·have ek:k=a.length:=by omega
  subst ek;rw[Nat.min_eq_right hm]at e8;refine zs2 e8 e9 ?_;exact⟨rfl,(kac _ _).push _⟩
theorem jim(hC:Has C TA){w1 w2:AV}{a b:List Int}{s:Int}{m:Nat}{h:Heap}(ha:RI h w1 a)(hb:RI h w2 b)(oa:one1 a)(ob:one1 b)(hl:a.length=b.length/\1<=a.length/\a.length<=10000)(hm:m<=a.length)(hs: -1<=s/\s<=1)(hms:(m:Int)<=a.length+s):
  ACalls C 182 [w1,w2,.int .i64 (m:Nat),.int .i64 s] h (fun r h'=>r=tupPP (pf a b m s m) (ps a b m (a.length-m))/\h'=h):=by
 have hlt:=ha.lt;refine zf 182 B182 hC ?_;simp only[B182,zB];refine zs ?_;refine jae (fun j t h'=>h'=h/\∃k:Nat,t 0=w1/\t 1=w2/\t 2=.int .i64 (m:Nat)/\t 3=.int .i64 s/\t 8=.int .i64 (pf a b m s k)/\t 9=.int .i64 0/\t 10=.int .i64 (k:Nat)/\k<=m/\j=m-k) (j0:=m)
  ⟨rfl,0,rfl,rfl,rfl,rfl,rfl,rfl,rfl,by omega,rfl⟩ ?_
 rintro j t h' ⟨rfl,k,e0,e1,e2,e3,e8,e9,e10,hk,hj⟩;refine zs2 e2 e10 ?_;refine kaf (fun c=>?_) (fun c=>?_)
 ·have p1:=pf_le oa ob (m:=m) (s:=s) k;have q:=jeV (oa.get k) (ob.get (min ((k:Int)-m+a.length+s) ((a.length:Int)-1)).toNat);have nx:pf a b m s (k+1)=pf a b m s k+a.getD k 0*b.getD (min ((k:Int)-m+a.length+s) ((a.length:Int)-1)).toNat 0:=rfl;have ld:=ha.load (k:=k) (by omega);have lb:=hb.load (k:=(min ((k:Int)-m+a.length+s) ((a.length:Int)-1)).toNat) (by omega);refine zs7 e0 e1 e2 e3 e8 e9 (zI e10 (zI @ha.idx (zI @ha.len (zI @hb.idx (zI ld (zI lb (Eq.symm nx))))))) ?_;exact⟨_,⟨k+1,rfl,by simp,by omega,rfl⟩,by omega⟩
 ·have ek:k=m:=by omega
  subst ek;refine zs1 e2 ?_;refine jae (fun j t h2=>h2=h'/\∃i:Nat,t 0=w1/\t 1=w2/\t 2=.int .i64 (k:Nat)/\t 8=.int .i64 (pf a b k s k)/\t 9=.int .i64 (ps a b k i)/\t 11=.int .i64 (k+i:Nat)/\k+i<=a.length/\j=a.length-(k+i)) (j0:=a.length-k)
   ⟨rfl,0,e0,e1,e2,e8,e9,rfl,by omega,rfl⟩ ?_
  rintro j t h2 ⟨rfl,i,e0,e1,e2,e8,e9,e11,hi,hj⟩;refine zs3 e0 e11 @ha.len ?_;refine kaf (fun c=>?_) (fun c=>?_)
  ·have p1:=ps_le oa ob (m:=k) i;have q:=jeV (oa.get (k+i)) (ob.get i);have nx:ps a b k (i+1)=ps a b k i+a.getD (k+i) 0*b.getD i 0:=rfl;have ld:=ha.load (k:=k+i) (by omega);have lb:=hb.load (k:=i) (by omega);have ei:((k+i:Nat):Int)-k=(i:Nat):=by omega
   refine zs7 e0 e1 e2 e8 e9 e11 (zI @ha.idx (zI @hb.idx (zI ld (zI lb (zI ei (Eq.symm nx)))))) ?_;exact⟨_,⟨i+1,rfl,by simp;omega,by omega,rfl⟩,by omega⟩
  ·have ek:a.length-k=i:=by omega
   rw[ek];refine zs2 e8 e9 ?_;rfl
theorem jjx{n mg k:Nat}{s:Int}(hs: -1<=s/\s<=1)(hk:k<cntM n mg s):mg+k<=n/\((mg+k:Nat):Int)<=n+s:=by
 unfold cntM lastM at hk;split at hk<;>omega
theorem jg4{n mg:Nat}{s:Int}(hs: -1<=s/\s<=1)(k:Nat):k<cntM n mg s↔((mg:Int)+k<=lastM n mg s):=by
 unfold cntM;omega
def rowG(a b:List Int)(mg:Nat):Nat->Int
 |0=>0
 |si+1=>gM a b ((si:Int)-1) mg (cntM a.length mg ((si:Int)-1)) (rowG a b mg si)
theorem jo7(a b:List Int)(mg:Nat):rowG a b mg 3=greatI a b mg:=rfl
theorem jku{a b:List Int}(oa:one1 a)(ob:one1 b)(mg:Nat):∀si,si<=3->0<=rowG a b mg si/\rowG a b mg si<=a.length
 |0,_=>by simp[rowG]
 |si+1,h=>by
  have ih:=jku oa ob mg si (by omega);by_cases c:cntM a.length mg ((si:Int)-1)=0
  ·rw[rowG,c];exact ih
  ·have:=jjx (n:=a.length) (mg:=mg) (s:=(si:Int)-1) (k:=cntM a.length mg ((si:Int)-1)-1) (by omega) (by omega);exact gM_le oa ob _ _ (by omega) ih
theorem jqG(hC:Has C TA){l b1 b2 n mg:Nat}{h:Heap}(hn:n<=10000/\mg<=10000)(J:Nat->Nat->Heap->Prop)(D:Heap->Prop)(h0:J 0 0 h)
  (hb:∀si k h',J si k h'->h'.get b1=some (.cells [.int .i64 (n:Nat)] true 0)/\h'.get b2=some (.cells [.int .i64 (mg:Nat)] true 0))
  (hy:∀(si k:Nat) (h':Heap),si<3->k<cntM n mg ((si:Int)-1)->J si k h'->jfR C l [.int .i64 (mg+k:Nat),.int .i64 ((si:Int)-1)] h' (fun r h''=>(r=.bool true/\J si (k+1) h'')\/(r=.bool false/\D h'')))
  (hx:∀(si:Nat) (h':Heap),si<3->J si (cntM n mg ((si:Int)-1)) h'->J (si+1) 0 h') (hd:∀h',J 3 0 h'->D h'):
  ACalls C 201 [.yield l,.ptr b1 0,.ptr b2 0] h (fun _ h'=>D h'):=by
 refine zf 201 B201 hC ?_;simp only[B201,zB];refine zs ?_;refine jae (fun j t h'=>∃si:Nat,J si 0 h'/\t 0=.yield l/\t 1=.ptr b1 0/\t 2=.ptr b2 0/\t 4=.int .i64 ((si:Int)-1)/\si<=3/\j=3-si) (j0:=3) ⟨0,h0,rfl,rfl,rfl,rfl,by omega,rfl⟩ ?_;rintro j t h' ⟨si,hJ,e0,e1,e2,e4,hsi,hj⟩;obtain⟨g1,g2⟩:=hb _ _ _ hJ;refine zs1 e4 ?_;refine kaf (fun c=>?_) (fun c=>?_)
 ·have hsi':si<3:=by omega
  have hls:∃L:Int,L=lastM n mg ((si:Int)-1)/\ -10001<=L/\L<=10001:=⟨_,rfl,by unfold lastM;split<;>omega,by unfold lastM;split<;>omega⟩;obtain⟨L,hL,hL1⟩:=hls;by_cases cm:0<(mg:Int)
  ·have eL:L=n+((si:Int)-1)-mg:=by rw[hL];unfold lastM;rw[if_pos cm]
   refine zs5 e1 e2 e4 g1 g2 ?_;rw[<-eL];refine jae (fun j t h'=>∃k:Nat,J si k h'/\t 0=.yield l/\t 1=.ptr b1 0/\t 2=.ptr b2 0/\t 4=.int .i64 ((si:Int)-1)/\t 5=.int .i64 L/\t 6=.int .i64 (mg+k:Nat)/\k<=cntM n mg ((si:Int)-1)/\j=cntM n mg ((si:Int)-1)-k) (j0:=cntM n mg ((si:Int)-1))
    ⟨0,hJ,e0,e1,e2,e4,rfl,rfl,by omega,rfl⟩ ?_
   rintro j t h'' ⟨k,hJ,e0,e1,e2,e4,e5,e6,hk,hj'⟩;refine zs2 e5 e6 ?_;refine kaf (fun c2=>?_) (fun c2=>?_)
   ·have hk':k<cntM n mg ((si:Int)-1):=(jg4 (by omega) k).2 (by omega);have:=jjx (by omega) hk';refine zs3 e0 e4 e6 ?_;refine kaE (hy si k h'' hsi' hk' hJ) ?_;rintro r h3 (⟨rfl,hJ'⟩|⟨rfl,hD⟩)
    ·refine zs6 e0 e1 e2 e4 e5 e6 ?_;exact⟨_,⟨k+1,hJ',by simp;omega,by omega,rfl⟩,by omega⟩
    ·refine zs ?_;exact hD
   ·have ek:k=cntM n mg ((si:Int)-1):=by
     have:=(jg4 (n:=n) (mg:=mg) (s:=(si:Int)-1) (by omega) k).1;omega
    subst ek;refine zs4 e0 e1 e2 e4 ?_;exact⟨_,⟨si+1,hx si h'' hsi' hJ,by congr 1;omega,by omega,rfl⟩,by omega⟩
  ·have eL:L=n+min ((si:Int)-1) 0:=by rw[hL];unfold lastM;rw[if_neg cm]
   refine zs5 e1 e2 e4 g1 g2 ?_;rw[<-eL];refine jae (fun j t h'=>∃k:Nat,J si k h'/\t 0=.yield l/\t 1=.ptr b1 0/\t 2=.ptr b2 0/\t 4=.int .i64 ((si:Int)-1)/\t 5=.int .i64 L/\t 6=.int .i64 (mg+k:Nat)/\k<=cntM n mg ((si:Int)-1)/\j=cntM n mg ((si:Int)-1)-k) (j0:=cntM n mg ((si:Int)-1))
    ⟨0,hJ,e0,e1,e2,e4,rfl,rfl,by omega,rfl⟩ ?_
   rintro j t h'' ⟨k,hJ,e0,e1,e2,e4,e5,e6,hk,hj'⟩;refine zs2 e5 e6 ?_;refine kaf (fun c2=>?_) (fun c2=>?_)
   ·have hk':k<cntM n mg ((si:Int)-1):=(jg4 (by omega) k).2 (by omega);have:=jjx (by omega) hk';refine zs3 e0 e4 e6 ?_;refine kaE (hy si k h'' hsi' hk' hJ) ?_;rintro r h3 (⟨rfl,hJ'⟩|⟨rfl,hD⟩)
    ·refine zs6 e0 e1 e2 e4 e5 e6 ?_;exact⟨_,⟨k+1,hJ',by simp;omega,by omega,rfl⟩,by omega⟩
    ·refine zs ?_;exact hD
   ·have ek:k=cntM n mg ((si:Int)-1):=by
     have:=(jg4 (n:=n) (mg:=mg) (s:=(si:Int)-1) (by omega) k).1;omega
    subst ek;refine zs4 e0 e1 e2 e4 ?_;exact⟨_,⟨si+1,hx si h'' hsi' hJ,by congr 1;omega,by omega,rfl⟩,by omega⟩
 ·have:si=3:=by omega
  subst this;refine zs ?_;exact hd _ hJ
theorem jin{a b:List Int}{mg si k:Nat}:gM a b ((si:Int)-1) mg (k+1) (rowG a b mg si)=max (gM a b ((si:Int)-1) mg k (rowG a b mg si)) (plc a b ((si:Int)-1) (mg+k)):=rfl
theorem jmW(hC:Has C TA){w1 w2:AV}{a b:List Int}{o1 o2 s x:Int}{m i1 i2:Nat}{h:Heap}(g1:h.get i1=some (.cells [w1,.int .i64 o1] true 0))(g2:h.get i2=some (.cells [w2,.int .i64 o2] true 0))(ha:RI h w1 a)(hb:RI h w2 b)(oa:one1 a)(ob:one1 b)(hl:a.length=b.length/\1<=a.length/\a.length<=10000)(hm:m<=a.length)(hs: -1<=s/\s<=1)(hms:(m:Int)<=a.length+s)(hx:0<=x/\x<=10000):
  ACalls C 189 [.int .i64 x,.int .i64 (m:Nat),.int .i64 s,.ptr i1 0,.ptr i2 0] h (fun r h'=>r=.int .i64 (max x (plc a b s m))/\h'=h):=by
 have p1:=pf_le oa ob (m:=m) (s:=s) m;have p2:=ps_le oa ob (m:=m) (a.length-m);have pp:=jo6 hC (o1:=o1) (o2:=o2) (h:=h) ha hb oa ob hl hm hs hms;unfold plc;refine zf 189 B189 hC ?_;simp only[B189,zB];refine zs2 @g1 @g2 ?_;refine kaa pp ?_;generalize pf a b m s m=X at*;generalize ps a b m (a.length-m)=Y at*;refine zs1 @tupPP.eq_1 ?_;rw[show(0-X)= -X by omega,show(0-Y)= -Y by omega]
theorem jqH(hC:Has C TA)(hP:Has C TA)(hG:Has C TA){w1 w2:AV}{a b:List Int}{o1 o2:Int}{mg i1 i2 b1 b2:Nat}{h:Heap}(g1:h.get i1=some (.cells [w1,.int .i64 o1] true 0))(g2:h.get i2=some (.cells [w2,.int .i64 o2] true 0))
  (k1:h.get b1=some (.cells [.int .i64 (a.length:Nat)] true 0)) (k2:h.get b2=some (.cells [.int .i64 (mg:Nat)] true 0)) (ha:RI h w1 a) (hb:RI h w2 b) (oa:one1 a) (ob:one1 b) (hl:a.length=b.length/\1<=a.length/\a.length<=10000) (hmg:mg<=10000):
  ACalls C 187 [.func 201 [] [.ptr b1 0,.ptr b2 0],.int .i64 0,.func 189 [] [.ptr i1 0,.ptr i2 0]] h (fun r h'=>r=.int .i64 (greatI a b mg)/\HSub h h'):=by
 have l1:=kab g1;have l2:=kab g2;have l3:=kab k1;have l4:=kab k2;refine zf 187 B187 hC ?_;simp only[B187,zB];refine zs ?_;refine jb5 (D:=fun h'=>∃R,h'.get (h.size+3)=some (.loop R)/\R.state=.ready/\R.pend=none/\HSub h h'/\h'.get (h.size+2)=some (.defd true)/\h'.get h.size=some (.cells [.int .i64 (greatI a b mg)] true 0)/\h.size+4<=h'.size) ?_ ?_
 ·refine kaq (fun R hR=>?_);show ACalls C 201 [.yield (h.size+3),.ptr b1 0,.ptr b2 0] _ _;have rs:R.state=.ready:=by rw[hR]
  have rp:R.pend=none:=by rw[hR]
  have rb:=jdG rs rp;refine jqG hP (n:=a.length) (mg:=mg) ⟨hl.2.2,hmg⟩ (fun si k h'=>h'.get (h.size+3)=some (.loop R)/\HSub h h'/\h'.get (h.size+2)=some (.defd true)/\h'.get (h.size+1)=some (.cells [.func 189 [] [.ptr i1 0,.ptr i2 0]] true 0)/\
   h'.get h.size=some (.cells [.int .i64 (gM a b ((si:Int)-1) mg k (rowG a b mg si))] true 0)/\h.size+4<=h'.size) _ ?_ ?_ ?_ ?_ ?_
  ·refine⟨?_,(((kac _ _).push _).push _).push _,?_,?_,?_,?_⟩
   ·exact ze
   ·exact ze
   ·exact ze
   ·refine zs ?_;rfl
   ·refine zs ?_;omega
  ·rintro si k h' ⟨_,hs,_⟩;exact⟨(hs.get _ l3).trans k1,(hs.get _ l4).trans k2⟩
  ·rintro si k h' hsi hk ⟨hlp,hsub,hd,gf,gv,hsz⟩;have hin:=jjx (n:=a.length) (mg:=mg) (s:=(si:Int)-1) (by omega) hk;have rg:=jku oa ob mg si (by omega);have gl:=gM_le oa ob (s:=(si:Int)-1) (lo:=mg) k _ (by omega) rg;have gs:=jin (a:=a) (b:=b) (mg:=mg) (si:=si) (k:=k);refine jcp (r:=R) hlp rs (by rw[hR];rfl) ?_;simp only[congrArg ALoop.nt hR,congrArg ALoop.t hR,congrArg ALoop.params hR,congrArg ALoop.assign hR,congrArg ALoop.body hR];have hsH:=fun bb=>(hsub.put (i:=h.size+3) (by omega) bb);have gr:=fun bb=>jmW hG (s:=(si:Int)-1) (x:=gM a b ((si:Int)-1) mg k (rowG a b mg si)) (m:=mg+k) (((hsH bb).get _ l1).trans g1) (((hsH bb).get _ l2).trans g2) (ha.mono (hsH bb)) (hb.mono (hsH bb)) oa ob hl hin.1 (by omega) hin.2 (by omega)
   refine zs4 hlp rs gf gv ?_;refine kaa (gr _) (zs2 hlp gv ?_);exact .inl ⟨by rw[rb],(zh hsub),hd,gf,by rw[gs],hsz⟩
  ·rintro si h' hsi ⟨hlp,hsub,hd,gf,gv,hsz⟩;exact⟨hlp,hsub,hd,gf,gv,hsz⟩
  ·rintro h' ⟨hlp,hsub,hd,gf,gv,hsz⟩;exact⟨R,hlp,rs,rp,hsub,hd,gv,hsz⟩
 ·rintro h' ⟨R,hlp,hst,hpd,hsub,hd,gv,hsz⟩;refine⟨R,hlp,by rw[hst];decide,?_⟩;rw[hpd];show jcD _ _ .normal _;refine zs2 hd gv ?_;exact(zh hsub)
theorem jjy(hC:Has C TA){w1 w2:AV}{a b:List Int}{o1 o2:Int}{mg:Nat}{h:Heap}(ha:RI h w1 a)(hb:RI h w2 b)(oa:one1 a)(ob:one1 b)(hl:a.length=b.length/\1<=a.length/\a.length<=10000)(hmg:mg<=10000):
  ACalls C 183 [.agg [w1,.int .i64 o1],.agg [w2,.int .i64 o2],.int .i64 (mg:Nat)] h (fun r h'=>r=.int .i64 (greatI a b mg)/\h'=h):=by
 refine kae (P:=fun r h'=>r=.int .i64 (greatI a b mg)/\HSub h h') ?_ (fun r h' hp=>⟨by rw[hp.1];trivial,hp.2,hp.1,rfl⟩);have hlt:=ha.lt;have c0:=ha.cells;have o0:=ha.one;have c1:=hb.cells;have o1':=hb.one;have hpl:∀h (n:Int),ACalls C 188 [.int .i64 n,.int .i64 (mg:Nat)] h (fun r h'=>r=.func 201 [] [.ptr h.size 0,.ptr (h.size+1) 0]/\h'=(h.push (.cells [.int .i64 n] true 0)).push (.cells [.int .i64 (mg:Nat)] true 0)):=by
  intro h n;have hC':Has C TA:=hC;have hC:=hC';refine zf 188 B188 hC ?_;simp only[B188,zB];exact ze
 have hsub4:HSub h ((((h.push (.cells [w1,.int .i64 o1] true 0)).push (.cells [w2,.int .i64 o2] true 0)).push (.cells [.int .i64 (a.length:Nat)] true 0)).push (.cells [.int .i64 (mg:Nat)] true 0)):=zr;have hfd:=jqH hC hC hC (i1:=h.size) (i2:=h.size+1) (b1:=h.size+2) (b2:=h.size+3) (o1:=o1) (o2:=o2) (w1:=w1) (w2:=w2) (mg:=mg)
  (h:=(((h.push (.cells [w1,.int .i64 o1] true 0)).push (.cells [w2,.int .i64 o2] true 0)).push (.cells [.int .i64 (a.length:Nat)] true 0)).push (.cells [.int .i64 (mg:Nat)] true 0))
  (by exact ze) (by exact ze) (by exact ze) (by exact ze) (ha.mono hsub4) (hb.mono hsub4) oa ob hl hmg
 refine zf 183 B183 hC ?_;simp only[B183,zB];refine zs1 @ha.len ?_;refine kaa (hpl _ _) (zs ?_);refine kad hfd ?_;rintro r h' ⟨rfl,s1⟩;refine zs ?_;exact hsub4.trans s1
theorem jio(hC:Has C TA){w1 w2:AV}{a b:List Int}{mg:Nat}{h:Heap}(ha:RI h w1 a)(hb:RI h w2 b)(oa:one1 a)(ob:one1 b)(hl:a.length=b.length/\1<=a.length/\a.length<=10000)(hmg:mg<=10000):
  ACalls C 184 [w1,w2,.int .i64 (mg:Nat),.int .i64 (mg:Nat)] h (fun r h'=>r=.int .i64 (greatI a b mg)/\h'=h):=by
 have hlt:=ha.lt;refine zf 184 B184 hC ?_;simp only[B184,zB];refine zs ?_;refine jae (fun j t h'=>h'=h/\∃si:Nat,t 0=w1/\t 1=w2/\t 2=.int .i64 (mg:Nat)/\t 3=.int .i64 (mg:Nat)/\t 9=.int .i64 (rowG a b mg si)/\t 10=.int .i64 ((si:Int)-1)/\si<=3/\j=3-si) (j0:=3)
  ⟨rfl,0,rfl,rfl,rfl,rfl,rfl,rfl,by omega,rfl⟩ ?_
 rintro j t h' ⟨rfl,si,e0,e1,e2,e3,e9,e10,hsi,hj⟩;refine zs1 e10 ?_;refine kaf (fun c=>?_) (fun c=>?_)
 ·have hsi':si<3:=by omega
  have rg:=jku oa ob mg si (by omega);obtain⟨L,hL,hL1⟩:∃L:Int,L=lastM a.length mg ((si:Int)-1)/\ -10001<=L/\L<=10001:=⟨_,rfl,by unfold lastM;split<;>omega,by unfold lastM;split<;>omega⟩;by_cases cm:0<(mg:Int)
  ·have eL:L=a.length+((si:Int)-1)-mg:=by rw[hL];unfold lastM;rw[if_pos cm]
   refine zs5 e0 e2 e3 e10 @ha.len ?_;rw[<-eL];refine jae (fun j t h2=>h2=h'/\∃k:Nat,t 0=w1/\t 1=w2/\t 2=.int .i64 (mg:Nat)/\t 3=.int .i64 (mg:Nat)/\t 9=.int .i64 (gM a b ((si:Int)-1) mg k (rowG a b mg si))/\t 10=.int .i64 ((si:Int)-1)/\t 11=.int .i64 L/\t 12=.int .i64 (mg+k:Nat)/\k<=cntM a.length mg ((si:Int)-1)/\j=cntM a.length mg ((si:Int)-1)-k) (j0:=cntM a.length mg ((si:Int)-1))
    ⟨rfl,0,e0,e1,e2,e3,e9,e10,rfl,rfl,by omega,rfl⟩ ?_
   rintro j t h2 ⟨rfl,k,e0,e1,e2,e3,e9,e10,e11,e12,hk,hj'⟩;refine zs2 e11 e12 ?_;refine kaf (fun c2=>?_) (fun c2=>?_)
   ·have hk':k<cntM a.length mg ((si:Int)-1):=(jg4 (by omega) k).2 (by omega);have hin:=jjx (by omega) hk';have gl:=gM_le oa ob (s:=(si:Int)-1) (lo:=mg) k _ (by omega) rg;have gs:=jin (a:=a) (b:=b) (mg:=mg) (si:=si) (k:=k);have p1:=pf_le oa ob (m:=(mg+k:Nat)) (s:=(si:Int)-1) (mg+k);have p2:=ps_le oa ob (m:=mg+k) (a.length-(mg+k));have pp:=jim hC (s:=(si:Int)-1) (m:=mg+k) (h:=h2) ha hb oa ob hl hin.1 (by omega) hin.2;have pl:plc a b ((si:Int)-1) (mg+k)=max (pf a b (mg+k:Nat) ((si:Int)-1) (mg+k)) (-pf a b (mg+k:Nat) ((si:Int)-1) (mg+k))+max (ps a b (mg+k) (a.length-(mg+k))) (-ps a b (mg+k) (a.length-(mg+k))):=rfl
    refine zs4 e0 e1 e10 e12 ?_;refine kaa pp ?_;generalize pf a b (mg+k:Nat) ((si:Int)-1) (mg+k)=X at*;generalize ps a b (mg+k) (a.length-(mg+k))=Y at*;refine zs7 @tupPP.eq_1 e9 e0 e1 e2 e3 (zI e10 (zI e11 e12)) ?_;exact⟨_,⟨k+1,by rw[gs,pl,Int.zero_sub,Int.zero_sub],by congr 1<;>omega,by omega,rfl⟩,by omega⟩
   ·have ek:k=cntM a.length mg ((si:Int)-1):=by
     have:=(jg4 (n:=a.length) (mg:=mg) (s:=(si:Int)-1) (by omega) k).1;omega
    subst ek;refine zs6 e0 e1 e2 e3 e9 e10 ?_;exact⟨_,⟨si+1,rfl,by congr 1;omega,by omega,rfl⟩,by omega⟩
  ·have eL:L=a.length+min ((si:Int)-1) 0:=by rw[hL];unfold lastM;rw[if_neg cm]
   refine zs5 e0 e2 e3 e10 @ha.len ?_;rw[<-eL];refine jae (fun j t h2=>h2=h'/\∃k:Nat,t 0=w1/\t 1=w2/\t 2=.int .i64 (mg:Nat)/\t 3=.int .i64 (mg:Nat)/\t 9=.int .i64 (gM a b ((si:Int)-1) mg k (rowG a b mg si))/\t 10=.int .i64 ((si:Int)-1)/\t 11=.int .i64 L/\t 12=.int .i64 (mg+k:Nat)/\k<=cntM a.length mg ((si:Int)-1)/\j=cntM a.length mg ((si:Int)-1)-k) (j0:=cntM a.length mg ((si:Int)-1))
    ⟨rfl,0,e0,e1,e2,e3,e9,e10,rfl,rfl,by omega,rfl⟩ ?_
   rintro j t h2 ⟨rfl,k,e0,e1,e2,e3,e9,e10,e11,e12,hk,hj'⟩;refine zs2 e11 e12 ?_;refine kaf (fun c2=>?_) (fun c2=>?_)
   ·have hk':k<cntM a.length mg ((si:Int)-1):=(jg4 (by omega) k).2 (by omega);have hin:=jjx (by omega) hk';have gl:=gM_le oa ob (s:=(si:Int)-1) (lo:=mg) k _ (by omega) rg;have gs:=jin (a:=a) (b:=b) (mg:=mg) (si:=si) (k:=k);have p1:=pf_le oa ob (m:=(mg+k:Nat)) (s:=(si:Int)-1) (mg+k);have p2:=ps_le oa ob (m:=mg+k) (a.length-(mg+k));have pp:=jim hC (s:=(si:Int)-1) (m:=mg+k) (h:=h2) ha hb oa ob hl hin.1 (by omega) hin.2;have pl:plc a b ((si:Int)-1) (mg+k)=max (pf a b (mg+k:Nat) ((si:Int)-1) (mg+k)) (-pf a b (mg+k:Nat) ((si:Int)-1) (mg+k))+max (ps a b (mg+k) (a.length-(mg+k))) (-ps a b (mg+k) (a.length-(mg+k))):=rfl
    refine zs4 e0 e1 e10 e12 ?_;refine kaa pp ?_;generalize pf a b (mg+k:Nat) ((si:Int)-1) (mg+k)=X at*;generalize ps a b (mg+k) (a.length-(mg+k))=Y at*;refine zs7 @tupPP.eq_1 e9 e0 e1 e2 e3 (zI e10 (zI e11 e12)) ?_;exact⟨_,⟨k+1,by rw[gs,pl,Int.zero_sub,Int.zero_sub],by congr 1<;>omega,by omega,rfl⟩,by omega⟩
   ·have ek:k=cntM a.length mg ((si:Int)-1):=by
     have:=(jg4 (n:=a.length) (mg:=mg) (s:=(si:Int)-1) (by omega) k).1;omega
    subst ek;refine zs6 e0 e1 e2 e3 e9 e10 ?_;exact⟨_,⟨si+1,rfl,by congr 1;omega,by omega,rfl⟩,by omega⟩
 ·have:si=3:=by omega
  subst this;refine zs1 e9 ?_;rfl
theorem jbU(d o:Int)(ps:List Int):jaA d o ps=0\/jaA d o ps=2:=by unfold jaA;split<;>simp
theorem jdN{o:Int}{ps:List Int}(h:jaA d o ps=0):lenOk d=true/\(1<=o/\o<=8)/\∀p∈ps,jaG d p=0:=by
 unfold jaA at h;split at h
 ·rename_i c;have k:=c.1;unfold jax at k;split at k
  ·rename_i kk;exact⟨kk.1,kk.2,c.2⟩
  ·cases k
 ·cases h
def jqI(d o p q m s:Int):Prop:=jaA d o [p,q]=0/\(-1<=s/\s<=1)/\0<=m/\m<=lenN d*o+min s 0
instance (d o p q m s:Int):Decidable (jqI d o p q m s):=by unfold jqI;exact inferInstance
def jn3(d o p q:Int):AV:=if jaA d o [p,q]=0 then tup2 (greatI (sampL d p o.toNat) (sampL d q o.toNat) 0) 0 else tup2 0 2
def sideE(d o p:Int):AV:=if jaA d o [p]=0 then tup2 (greatI (sampL d p o.toNat) (sampL d p o.toNat) o.toNat) 0 else tup2 0 2
theorem jmX(d o p q:Int):jaA d o [p,q]=if jaA d o [p]=0/\jaA d o [q]=0 then 0 else 2:=by
 unfold jaA;by_cases c:jax d o=0<;>by_cases c1:jaG d p=0<;>by_cases c2:jaG d q=0<;>simp[c,c1,c2]
theorem jfs(hC:Has C TA){o:Int}(hd:In64 d)(ho:In64 o):ACalls C 179 [.int .i64 d,.int .i64 o] h (fun r h'=>r=.int .i64 (jax d o)/\h'=h):=by
 unfold In64 at ho;by_cases c:lenOk d=true
 ·have e:lenE d=tup2 (lenN d) 0:=by unfold lenE;rw[if_pos c]
  by_cases co:1<=o/\o<=8
  ·have pe:jax d o=0:=by unfold jax;rw[if_pos ⟨c,co⟩]
   rw[pe];refine zf 179 B179 hC ?_;simp only[B179,zB];refine zs ?_;refine kai (ja3 hC hd) e ?_;exact ze1 @tup2.eq_1
  ·have pe:jax d o=2:=by unfold jax;rw[if_neg (fun h=>co h.2)]
   rw[pe];refine zf 179 B179 hC ?_;simp only[B179,zB];refine zs ?_;refine kai (ja3 hC hd) e (zs1 @tup2.eq_1 ?_)
   (repeat' (first|(refine kaf (fun _=>?_) (fun _=>?_))|(exact ze)))
   all_goals omega
 ·have e:lenE d=tup2 0 2:=by unfold lenE;rw[if_neg c]
  have pe:jax d o=2:=by unfold jax;rw[if_neg (fun h=>c h.1)]
  rw[pe];refine zf 179 B179 hC ?_;simp only[B179,zB];refine zs ?_;refine kai (ja3 hC hd) e ?_;exact ze1 @tup2.eq_1
def sampK(d p:Int)(o k:Nat):List Int:=(List.range k).map fun i=>(codeL d p).getD (i/o) 0
theorem jlJ(d p:Int)(o k:Nat):(sampK d p o k).length=k:=by simp[sampK]
theorem jo8(d p:Int)(o k:Nat):sampK d p o (k+1)=sampK d p o k++[(codeL d p).getD (k/o) 0]:=by simp[sampK,List.range_succ]
theorem jeg(hC:Has C TA){d o p:Int}{h:Heap}(hd:In64 d)(ho:In64 o)(hp:In64 p):
  ACalls C 169 [.int .i64 d,.int .i64 o,.int .i64 p] h (fun r h'=>∃v,r=jai v (jaA d o [p])/\HSub h h'/\RI h' v (if jaA d o [p]=0 then sampL d p o.toNat else[])):=by
 rcases jbU d o [p]with c|c
 ·have ok:=jdN c;have hN:=jbk ok.1;have ck:jax d o=0:=by unfold jax;rw[if_pos ⟨ok.1,ok.2.1⟩]
  have cc:jaG d p=0:=ok.2.2 p (by simp);obtain⟨q,rfl⟩:=Int.eq_ofNat_of_zero_le (show 0<=o by omega);have ho1:1<=q:=by omega
  rw[c,if_pos rfl,Int.toNat_natCast];have hcode:=jfr hC (h:=h) hd hp;rw[cc,if_pos rfl]at hcode;have cl:=jaM d p;have sz1:lenN d<=lenN d*q:=Nat.le_mul_of_pos_right _ (by omega);have sz2:lenN d*q<=1023*8:=Nat.mul_le_mul (by omega) (by omega);have em:(lenN d:Int)*(q:Nat)=((lenN d*q:Nat):Int):=by omega
  have full:sampK d p q (lenN d*q)=sampL d p q:=(jsg d p ho1).symm;refine zf 169 B169 hC ?_;simp only[B169,zB];refine zs ?_;refine kaa (jfs hC hd ho) ?_;rw[ck];refine zs ?_;refine kad hcode ?_;rintro r h1 ⟨v1,rfl,s1,R1⟩;refine zs1 @jai.eq_1 ?_;refine jae (fun j t h'=>∃k:Nat,GrwI h1 h' (t 11) (sampK d p q k)/\t 1=.int .i64 (q:Nat)/\t 9=v1/\t 12=.int .i64 (k:Nat)/\k<=lenN d*q/\j=lenN d*q-k) (j0:=lenN d*q)
   ⟨0,kbJ _,rfl,rfl,rfl,by omega,rfl⟩ ?_
  rintro j t h2 ⟨k,A,e1,e9,e12,hk,hj⟩;have R2:=R1.mono A.sub;refine zs6 e1 e9 e12 @R2.len cl em ?_;refine kaf (fun c1=>?_) (fun c1=>?_)
  ·have hk':k<lenN d*q:=by omega
   have hdv:k/q<lenN d:=Nat.div_lt_of_lt_mul (by rw[Nat.mul_comm];exact hk');have ed:(k:Int)/(q:Nat)=((k/q:Nat):Int):=(Int.natCast_ediv _ _).symm;generalize hg:k/q=g at hdv ed;have ld:=R2.load (k:=g) (by omega);have sl:=jlJ d p q k;have su:=jo8 d p q k;rw[hg]at su;obtain⟨x,hx⟩:∃x,x=(codeL d p).getD g 0:=⟨_,rfl⟩;rw[<-hx]at su ld;have A2:=A.snoc (x:=x) (kac h2 (.cells [.int .i64 x] true 0)) (by omega);rw[<-su,sl]at A2;refine zs7 e1 e9 e12 ed @R2.idx ld (zI @cont_slice (zI @contB_one (zI @A.app (zI sl (Eq.symm su))))) ?_
   exact⟨_,⟨k+1,A2,by simp,by omega,rfl⟩,by omega⟩
  ·have ek:k=lenN d*q:=by omega
   subst ek;rw[full]at A;refine zs ?_;exact⟨_,rfl,s1.trans A.sub,A.ri⟩
 ·rw[c,if_neg (by decide)];by_cases ck:jax d o=0
  ·have cc:jaG d p=2:=by
    rw[jih]at c;have:¬jaG d p=0:=fun h=>by rw[if_pos ⟨ck,h⟩]at c;cases c
    unfold jaG at this|-;split at this<;>first|exact absurd rfl this|(rename_i h;rw[if_neg h])
   have hcode:=jfr hC (h:=h) hd hp;rw[cc]at hcode;refine zf 169 B169 hC ?_;simp only[B169,zB];refine zs ?_;refine kaa (jfs hC hd ho) ?_;rw[ck];refine zs ?_;refine kad hcode ?_;rintro r h1 ⟨v1,rfl,s1,R1⟩;refine zs1 @jai.eq_1 ?_;exact⟨_,rfl,s1,kav⟩
  ·have ck2:jax d o=2:=by unfold jax at ck|-;split at ck<;>first|exact absurd rfl ck|(rename_i h;rw[if_neg h])
   refine zf 169 B169 hC ?_;simp only[B169,zB];refine zs ?_;refine kaa (jfs hC hd ho) ?_;rw[ck2];refine zs1 @jai.eq_1 ?_;exact⟨_,rfl,kag _,kav⟩
theorem jo9(hC:Has C TA){d o p q:Int}{h:Heap}(hd:In64 d)(ho:In64 o)(hp:In64 p)(hq:In64 q):
  ACalls C 181 [.int .i64 d,.int .i64 o,.int .i64 p,.int .i64 q] h (fun r h'=>∃v w,r=.tuple [v,w,.int .i64 (jaA d o [p,q])]/\HSub h h'/\(jaA d o [p,q]=0->RI h' v (sampL d p o.toNat)/\RI h' w (sampL d q o.toNat))):=by
 have s1:=fun h=>jeg hC (h:=h) hd ho hp;have s2:=fun h=>jeg hC (h:=h) hd ho hq;rw[jmX];rcases jbU d o [p]with c|c
 ·simp only[c,if_true]at s1;rcases jbU d o [q]with c2|c2
  ·simp only[c2,if_true]at s2;rw[if_pos ⟨c,c2⟩];refine zf 181 B181 hC ?_;simp only[B181,zB];refine zs ?_;refine kad (s1 _) ?_;rintro r h1 ⟨v1,rfl,q1,R1⟩;refine zs1 @jai.eq_1 ?_;refine kad (s2 _) ?_;rintro r h2 ⟨v2,rfl,q2,R2⟩;refine zs1 @jai.eq_1 ?_;exact⟨_,_,rfl,q1.trans q2,fun _=>⟨R1.mono q2,R2⟩⟩
  ·simp only[c2]at s2;rw[if_neg (by omega)];refine zf 181 B181 hC ?_;simp only[B181,zB];refine zs ?_;refine kad (s1 _) ?_;rintro r h1 ⟨v1,rfl,q1,R1⟩;refine zs1 @jai.eq_1 ?_;refine kad (s2 _) ?_;rintro r h2 ⟨v2,rfl,q2,R2⟩;refine zs1 @jai.eq_1 ?_;exact⟨_,_,rfl,q1.trans q2⟩
 ·simp only[c]at s1;rw[if_neg (by omega)];refine zf 181 B181 hC ?_;simp only[B181,zB];refine zs ?_;refine kad (s1 _) ?_;rintro r h1 ⟨v1,rfl,q1,R1⟩;refine zs1 @jai.eq_1 ?_;exact⟨_,_,rfl,q1⟩
theorem jmY(hC:Has C TA){d o p q:Int}{h:Heap}(hd:In64 d)(ho:In64 o)(hp:In64 p)(hq:In64 q):
  ACalls C 177 [.int .i64 d,.int .i64 o,.int .i64 p,.int .i64 q] h (fun r h'=>r=jn3 d o p q/\HSub h h'):=by
 have hpr:=fun h=>jo9 hC (h:=h) hd ho hp hq;unfold jn3;rcases jbU d o [p,q]with c|c
 ·simp only[c]at hpr;rw[if_pos c];have ok:=jdN c;have hN:=jbk ok.1;obtain⟨k,rfl⟩:=Int.eq_ofNat_of_zero_le (show 0<=o by omega);have ln1:=jaF d p k;have ln2:=jaF d q k;have sz1:lenN d<=lenN d*k:=Nat.le_mul_of_pos_right _ (by omega);have sz2:lenN d*k<=1023*8:=Nat.mul_le_mul (by omega) (by omega);rw[Int.toNat_natCast];refine zf 177 B177 hC ?_;simp only[B177,zB];refine zs ?_;refine kad (hpr _) ?_;rintro r h1 ⟨w1,w2,rfl,s1,hri⟩;have x:=hri trivial;obtain⟨R1,R2⟩:=x;rw[Int.toNat_natCast]at R1 R2;have pp:=jio hC (mg:=0) (h:=h1) R1 R2 (jaZ _ _ _) (jaZ _ _ _) (by omega) (by omega)
  refine zs ?_;refine kaa pp (zs ?_);exact⟨rfl,s1⟩
 ·simp only[c]at hpr;rw[if_neg (by omega)];refine zf 177 B177 hC ?_;simp only[B177,zB];refine zs ?_;refine kad (hpr _) ?_;rintro r h1 ⟨w1,w2,rfl,s1,hri⟩;refine zs ?_;exact⟨rfl,s1⟩
theorem jpa(hC:Has C TA){d o p:Int}{h:Heap}(hd:In64 d)(ho:In64 o)(hp:In64 p):
  ACalls C 176 [.int .i64 d,.int .i64 o,.int .i64 p] h (fun r h'=>r=sideE d o p/\HSub h h'):=by
 have hpr:=fun h=>jeg hC (h:=h) hd ho hp;unfold sideE;rcases jbU d o [p]with c|c
 ·simp only[c,if_true]at hpr;rw[if_pos c];have ok:=jdN c;have hN:=jbk ok.1;obtain⟨k,rfl⟩:=Int.eq_ofNat_of_zero_le (show 0<=o by omega);have ln1:=jaF d p k;have sz1:lenN d<=lenN d*k:=Nat.le_mul_of_pos_right _ (by omega);have sz2:lenN d*k<=1023*8:=Nat.mul_le_mul (by omega) (by omega);rw[Int.toNat_natCast]at hpr|-;refine zf 176 B176 hC ?_;simp only[B176,zB];refine zs ?_;refine kad (hpr _) ?_;rintro r h1 ⟨w1,rfl,s1,R1⟩;have pp:=jio hC (mg:=k) (h:=h1) R1 R1 (jaZ _ _ _) (jaZ _ _ _) (by omega) (by omega);refine zs1 @jai.eq_1 ?_;refine kaa pp (zs ?_)
  exact⟨rfl,s1⟩
 ·simp only[c]at hpr;rw[if_neg (by omega)];refine zf 176 B176 hC ?_;simp only[B176,zB];refine zs ?_;refine kad (hpr _) ?_;rintro r h1 ⟨w1,rfl,s1,R1⟩;refine zs1 @jai.eq_1 ?_;exact⟨rfl,s1⟩
def corA(v w:AV):AV:=.agg [v,w]
theorem jsh{v w:AV}(hv:v.cells=[v])(hw:w.cells=[w]):fillA [.nilslice,.nilslice] [(0,1,v),(1,1,w)]=some [v,w]:=by simp[fillA,hv,hw]
theorem jeX{i:Nat}{v w a b:AV}(hv:v.one=true)(hw:w.one=true):jdj H i 2 0 (.agg [v,w]) (some (.cells [a,b] true 0))=some (H.put i (.cells [v,w] true 0)):=
 storeB_agg (xs:=[v,w]) (vs:=[a,b]) rfl (Nat.le_refl _) (by simp[hv,hw])
theorem RI.putNil{v:AV}{i:Nat}{b:ABlk}{wr:Bool}(R:RI h v l)(h0:0<l.length)(hg:h.get i=some (.cells [.nilslice,.nilslice] wr u)):RI (h.put i b) v l:=by
 obtain⟨hl,hlt,⟨rfl,e⟩|⟨j,o,cp,vs,wr',u',rfl,hj,ho,hc,r⟩⟩:=R
 ·omega
 ·have ne:j≠i:=by
   rintro rfl;rw[hg]at hj;cases hj;have m1:AV.int .i64 (l.getD 0 0)∈ints l:=List.mem_map.2 ⟨_,jam h0,rfl⟩;rw[<-hc]at m1;have m2:=List.mem_of_mem_drop (List.mem_of_mem_take m1);simp at m2
  exact⟨hl,hlt,.inr ⟨j,o,cp,vs,wr',u',rfl,(get_put_ne ne).trans hj,ho,hc,r⟩⟩
theorem jjz(hC:Has C TA){v w:AV}{i:Int}(hs:SI h v s):ACalls C 303 [corA v w,.int .i64 i] h (fun r h'=>r=smp (atP s i)/\h'=h):=by
 refine kae (P:=fun r h'=>r=smp (atP s i)/\HSub h h') ?_ (fun r h' hp=>⟨by rw[hp.1];exact jcz _,hp.2,hp.1,rfl⟩);have hlt:=hs.lt;have h1:=hs.one;unfold corA;by_cases c:i<0\/(s.length:Int)<=i
 ·have e:atP s i=(0,0):=by unfold atP;rw[if_pos c]
  rw[e];unfold smp;refine zf 303 B303 hC ?_;simp only[B303,zB];refine zs2 @hs.len @gV_u ?_
  (repeat' (first|(refine kaf (fun _=>?_) (fun _=>?_))|(refine zs2 @hs.len @gV_u ?_)))
  all_goals first
   |(exfalso;omega)
   |exact zr
 ·have e:atP s i=s.getD i.toNat (0,0):=by unfold atP;rw[if_neg c]
  rw[e];have ld:=fun b c=>(hs.mono ((kac h b).push c)).loadA (k:=i.toNat) (by omega);generalize s.getD i.toNat (0,0)=x at*;obtain⟨xx,xy⟩:=x;unfold smp at ld|-;dsimp only at ld;have hi:0<=i/\i<s.length:=by omega
  have ix:=hs.idx (kk:=.i64) hi;refine zf 303 B303 hC ?_;simp only[B303,zB];refine zs4 @hs.len @gV_u ix ld ?_;exact zr
theorem jft(hC:Has C TA){v w:AV}{s:List (Int×Int)}{c:List Int}{a:Int}{h:Heap}(hs:SI h v s)(hc:RI h w c)(hi:∀x∈s,inS 127 x)(ho:one1 c)(hcl:c.length<=100000)(ha: -100000000<=a/\a<=100000000):
  ACalls C 293 [corA v w,.int .i64 a] h (fun r h'=>r=smp (sumP s c a)/\h'=h):=by
 refine kae (P:=fun r h'=>r=smp (sumP s c a)/\HSub h h') ?_ (fun r h' hp=>⟨by rw[hp.1];exact jcz _,hp.2,hp.1,rfl⟩);have hlt:=hs.lt;have v1:=hs.one;have w1:=hc.one;have kat:=fun(i:Int) h1 (q:HSub h h1)=>jjz hC (w:=w) (i:=i) (hs.mono q);unfold corA at kat|-;refine zf 293 B293 hC ?_;simp only[B293,zB];refine zs1 @hc.len ?_;refine jae (fun j t h'=>HSub h h'/\h.size+1<h'.size/\h'.get h.size=some (.cells [v,w] true 0)/\∃k:Nat,h'.get (h.size+1)=some (.cells [.int .i64 (sumK s c a k).1,.int .i64 (sumK s c a k).2] true 0)/\t 1=.int .i64 a/\t 2=.ptr h.size 0/\t 4=.ptr (h.size+1) 0/\t 9=w/\t 10=.int .i64 (c.length:Nat)/\t 11=.int .i64 (k:Nat)/\k<=c.length/\j=c.length-k) (j0:=c.length)
  ⟨(kac _ _).push _,by simp,by exact ze,0,by refine zs ?_;rfl,rfl,rfl,rfl,rfl,rfl,rfl,by omega,rfl⟩ ?_
 rintro j t h1 ⟨s1,hz,gv,k,gb,e1,e2,e4,e9,e10,e11,hk,hj⟩;refine zs2 e10 e11 ?_;refine kaf (fun c3=>?_) (fun c3=>?_)
 ·have hk':k<c.length:=by omega
  have hc1:=hc.mono s1;have ld:=hc1.load hk';have hb:=jmR (a:=a) hi ho k;have hm:=jqC (jtj hi (a+(k:Nat))) (ho.get k);have es:sumK s c a (k+1)=addP (sumK s c a k) (mulP (atP s (a+(k:Nat))) (c.getD k 0)):=rfl;have kat:=kat (a+(k:Nat)) h1 s1;generalize sumK s c a k=q at*;generalize atP s (a+(k:Nat))=x at*;generalize c.getD k 0=y at*;obtain⟨qx,qy⟩:=q;obtain⟨xx,xy⟩:=x;unfold smp at kat;unfold inS at hb hm;unfold mulP at hm;dsimp only at kat hb hm gb;refine zs7 e1 e2 e9 e11 @hc1.idx ld gv ?_;refine kaa kat (zs7 e1 e2 e4 e9 e10 e11 (zI gv gb) ?_)
  exact⟨_,⟨(zh s1),by omega,k+1,by rw[es];rfl,by simp,by omega,rfl⟩,by omega⟩
 ·have ek:k=c.length:=by omega
  subst ek;unfold sumP;generalize sumK s c a c.length=q at*;obtain⟨qx,qy⟩:=q;unfold smp;refine zs2 e4 gb ?_;exact(zh s1)
def corE(x:AV)(e:Int):AV:=.tuple [x,.int .i64 e]
theorem jgH{o p:Int}(h:bankErr s d o p a=0):s.length<=1048576/\(∀x∈s,inS 127 x)/\jaA d o [p]=0/\ -2000000<=a/\a<=2000000:=by
 unfold bankErr at h;split at h
 ·omega
 ·split at h
  ·omega
  ·rename_i c2;split at h
   ·omega
   ·split at h
    ·omega
    ·exact⟨by omega,Classical.not_not.1 c2,by omega,by omega,by omega⟩
theorem jeF(hC:Has C TA){v:AV}{s:List (Int×Int)}{d o p a:Int}{h:Heap}(hs:SI h v s)(hd:In64 d)(ho:In64 o)(hp:In64 p)(ha:In64 a):
  ACalls C 292 [v,.int .i64 d,.int .i64 o,.int .i64 p,.int .i64 a] h (fun r h'=>HSub h h'/\∃x,r=corE x (bankErr s d o p a)/\(bankErr s d o p a=0->∃w,x=corA v w/\RI h' w (sampL d p o.toNat))/\(bankErr s d o p a≠0->x=corA .nilslice .nilslice)):=by
 have hlt:=hs.lt;have v1:=hs.one;have kc:=fun h1 (q:HSub h h1)=>je7 hC (g:=302) (P:=fun p=>inS 127 p) (fun p h=>jmV hC) (hs.mono q);have kS:=fun h1=>jkp hC (h:=h1) hd ho hp;have sc:=jbU d o [p];unfold In64 at ha;unfold bankErr corA corE;by_cases c1:1048576<s.length
 ·rw[if_pos c1];refine zf 292 B292 hC ?_;simp only[B292,zB];refine zs1 @hs.len ?_;exact⟨zr,_,rfl,fun _=>rfl⟩
 ·rw [if_neg c1];by_cases c2 : ∀ x ∈ s, inS 127 x
  ·simp only[decide_eq_true c2]at kc;rw[if_neg (fun q=>q c2)];refine zf 292 B292 hC ?_;simp only[B292,zB];refine zs1 @hs.len ?_;refine kaa (kc _ (kac _ _)) (zs ?_);refine kad (kS _) ?_;rintro r h1 ⟨w,rfl,s1,R⟩;have s0:=(kac h (.cells [.nilslice,.nilslice] true 0)).trans s1;have gz:h1.get h.size=some (.cells [.nilslice,.nilslice] true 0):=(s1.get _ (by simp)).trans (get_push_eq rfl);have w1:=R.one;have ft:=jsh hs.cells R.cells;have h0:jaA d o [p]=0->0<(sampL d p o.toNat).length:=fun q=>by
    have ok:=jdN q;have:=jbk ok.1;rw[jaF];exact Nat.mul_pos (by omega) (by omega)
   have sb:=fun(H:Heap) i=>jeX (H:=H) (i:=i) (a:=.nilslice) (b:=.nilslice) v1 w1;have hz:h.size<h1.size:=by have:=s1.size;simp only[Heap.size_push]at this;omega
   by_cases c3:jaA d o [p]=0
   ·have h0:=h0 c3;rw[c3]at R|-;rw[if_pos rfl]at R;rw[if_neg (by decide)];by_cases c4:a< -2000000\/2000000<a
    ·rw[if_pos c4];refine zs2 @jai.eq_1 gz ?_
     (repeat' (first|(refine kaf (fun _=>?_) (fun _=>?_))|(refine zs2 gz @gV_u ?_)))
     all_goals first
      |(exfalso;omega)
      |exact⟨(zh s0),_,rfl,fun _=>rfl⟩
    ·rw[if_neg c4];refine zs5 @jai.eq_1 gz @gV_u ft sb ?_;exact⟨(zh s0),_,rfl,fun _=>⟨w,rfl,R.putNil h0 gz⟩,fun q=>absurd trivial q⟩
   ·have c4:jaA d o [p]=2:=by omega
    rw[if_pos c3];rw[c4];refine zs2 @jai.eq_1 gz ?_;exact⟨(zh s0),_,rfl,fun _=>rfl⟩
  ·simp only[decide_eq_false c2]at kc;rw[if_pos c2];refine zf 292 B292 hC ?_;simp only[B292,zB];refine zs1 @hs.len ?_;refine kaa (kc _ (kac _ _)) (zs ?_);exact⟨zr,_,rfl,fun _=>rfl⟩
def bsumE(s:List (Int×Int))(d o p a:Int):AV:=if bankErr s d o p a=0 then .tuple [smp (sumP s (sampL d p o.toNat) a),.int .i64 0]else .tuple [smp (0,0),.int .i64 (bankErr s d o p a)]
theorem jpb(s:List (Int×Int))(d o p a:Int):(bsumE s d o p a).free:=by
 unfold bsumE;split<;>exact jcX (by simp[smp,AV.free,AV.bel,kar])
theorem jkv{o p:Int}(h:jaA d o [p]=0):(sampL d p o.toNat).length<=8184:=by
 have ok:=jdN h;have n:=jbk ok.1;rw[jaF];exact Nat.mul_le_mul (show lenN d<=1023 by omega) (show o.toNat<=8 by omega)
theorem jqJ(hC:Has C TA){v:AV}{s:List (Int×Int)}{d o p a:Int}{h:Heap}(hs:SI h v s)(hd:In64 d)(ho:In64 o)(hp:In64 p)(ha:In64 a):
  ACalls C 275 [v,.int .i64 d,.int .i64 o,.int .i64 p,.int .i64 a] h (fun r h'=>r=bsumE s d o p a/\h'=h):=by
 refine kae (P:=fun r h'=>r=bsumE s d o p a/\HSub h h') ?_ (fun r h' hp=>⟨by rw[hp.1];exact jpb _ _ _ _ _,hp.2,hp.1,rfl⟩);have kM:=fun h1 (q:HSub h h1)=>jeF hC (hs.mono q) hd ho hp ha;have v1:=hs.one;unfold bsumE;refine zf 275 B275 hC ?_;simp only[B275,zB];refine zs ?_;refine kad (kM _ (kac _ _)) ?_;rintro r h1 ⟨s1,x,rfl,g0,g1⟩;have gz:h1.get h.size=some (.cells [.int .i64 0,.int .i64 0] true 0):=(s1.get _ (by simp)).trans (get_push_eq rfl);have hz:h.size<h1.size:=by have:=s1.size;simp only[Heap.size_push]at this;omega
 have s0:=(kac h (.cells [.int .i64 0,.int .i64 0] true 0)).trans s1;by_cases c:bankErr s d o p a=0
 ·have ok:=jgH c;obtain⟨w,rfl,R⟩:=g0 c;have w1:=R.one;have sb:=fun(H:Heap) i=>jeX (H:=H) (i:=i) (a:=.nilslice) (b:=.nilslice) v1 w1;have kS:=fun h2 (q:HSub h1 h2)=>jft hC (a:=a) (hs.mono (s0.trans q)) (R.mono q) ok.2.1 (jaZ _ _ _) (by have:=jkv ok.2.2.1;omega) (by omega);rw[c,if_pos rfl];unfold corA at kS|-;generalize sumP s (sampL d p o.toNat) a=q at*;obtain⟨qx,qy⟩:=q;unfold smp at kS|-;dsimp only at kS|-;refine zs2 @corE.eq_1 sb ?_;refine kaa (kS _ zr) (zs1 gz ?_);exact(zh s0)
 ·rw[g1 c,if_neg c];unfold corA smp;generalize bankErr s d o p a=e at*;refine zs3 @corE.eq_1 @c gz ?_;exact(zh s0)
def absI(x:Int):Int:=max x (-x)
def sumAbs:List Int->Int
 |[]=>0
 |x::l=>absI x+sumAbs l
def maxAbs:List Int->Int
 |[]=>0
 |x::l=>max (absI x) (maxAbs l)
theorem jaN(x:Int):0<=absI x:=by unfold absI;omega
theorem jci:∀l,0<=sumAbs l
 |[]=>by simp[sumAbs]
 |x::l=>by have:=jci l;have:=jaN x;simp only[sumAbs];omega
theorem jcj:∀l,0<=maxAbs l
 |[]=>by simp[maxAbs]
 |x::l=>by have:=jcj l;have:=jaN x;simp only[maxAbs];omega
theorem jip:∀{l:List Int} {x:Int},x∈l->absI x<=maxAbs l
 |y::l,x,h=>by
  simp only[maxAbs];rcases List.mem_cons.1 h with rfl|h
  ·omega
  ·have:=jip h;omega
theorem jeh(l m:List Int):sumAbs (l++m)=sumAbs l+sumAbs m:=by
 induction l with
 |nil=>simp[sumAbs]
 |cons x l ih=>simp only[List.cons_append,sumAbs,ih];omega
theorem jkw(l m:List Int):maxAbs (l++m)=max (maxAbs l) (maxAbs m):=by
 induction l with
 |nil=>have:=jcj m;simp only[List.nil_append,maxAbs];omega
 |cons x l ih=>simp only[List.cons_append,maxAbs,ih];omega
theorem jfu{i:Nat}(h:i<l.length):sumAbs (l.take (i+1))=sumAbs (l.take i)+absI (l.getD i 0):=by
 rw[jap h,jeh];simp[sumAbs]
theorem jmZ{i:Nat}(h:i<l.length):maxAbs (l.take (i+1))=max (maxAbs (l.take i)) (absI (l.getD i 0)):=by
 have:=jaN (l.getD i 0);rw[jap h,jkw];simp only[maxAbs];omega
theorem je8(l:List Int)(i:Nat):sumAbs (l.take i)<=sumAbs l:=by
 have:=jeh (l.take i) (l.drop i);rw[List.take_append_drop]at this;have:=jci (l.drop i);omega
theorem jei(x y:Int):absI (x*y)=absI x*absI y:=by
 unfold absI;rcases Int.le_total 0 x with hx|hx<;>rcases Int.le_total 0 y with hy|hy
 ·have:=Int.mul_nonneg hx hy;rw[Int.max_eq_left (by omega),Int.max_eq_left (by omega),Int.max_eq_left (by omega)]
 ·have:=Int.mul_nonpos_of_nonneg_of_nonpos hx hy;rw[Int.max_eq_right (by omega),Int.max_eq_left (by omega),Int.max_eq_right (by omega),Int.mul_neg]
 ·have:=Int.mul_nonpos_of_nonpos_of_nonneg hx hy;rw[Int.max_eq_right (by omega),Int.max_eq_right (by omega),Int.max_eq_left (by omega),Int.neg_mul]
 ·have:=Int.mul_nonneg_of_nonpos_of_nonpos hx hy;rw[Int.max_eq_left (by omega),Int.max_eq_right (by omega),Int.max_eq_right (by omega),Int.neg_mul_neg]
theorem jn4(x y:Int):absI (x+y)<=absI x+absI y:=by unfold absI;omega
theorem jm0{x:Int}(h:absI x<=b): -b<=x/\x<=b:=by unfold absI at h;omega
def small(l:List Int):Prop:=∀x∈l,-1000000<=x/\x<=1000000
theorem jf4(h:small l){i:Nat}(hi:i<l.length):absI (l.getD i 0)<=1000000:=by
 have:=h _ (jam hi);unfold absI;omega
theorem jg5(h:small l):sumAbs l<=1000000*l.length:=by
 induction l with
 |nil=>simp[sumAbs]
 |cons x l ih=>
  have h1:=ih (fun y hy=>h y (List.mem_cons_of_mem _ hy));have h2:=h x List.mem_cons_self;simp only[sumAbs,List.length_cons,absI];omega
theorem jg6(h:small l):maxAbs l<=1000000:=by
 induction l with
 |nil=>simp[maxAbs]
 |cons x l ih=>
  have h1:=ih (fun y hy=>h y (List.mem_cons_of_mem _ hy));have h2:=h x List.mem_cons_self;simp only[maxAbs,absI];omega
theorem jcK{N m:Nat}{f:Nat->Int}(h:m<N):((List.range N).map f).getD m 0=f m:=by simp[h]
theorem jlK{N m:Nat}{f g:Nat->Int}{y:Int}(hm:g m=y)(hn:∀n,n≠m->g n=f n):((List.range N).map f).set m y=(List.range N).map g:=by
 refine List.ext_getElem (by simp) fun n h1 h2=>?_;simp only[List.length_set,List.length_map,List.length_range]at h1;rw[List.getElem_set];split
 ·rename_i e;subst e;simp[hm]
 ·rename_i e;simp[hn n (Ne.symm e)]
def bigs(x:Int):Bool:=decide (x< -1000000\/1000000<x)
theorem jht(h:l.any bigs=false):small l:=fun x hx=>by
 have:=List.any_eq_false.1 h x hx;simp only[bigs,decide_eq_true_eq]at this;omega
def cs(a b:List Int)(k:Nat):Nat->Int
 |0=>0
 |i+1=>cs a b k i+a.getD i 0*b.getD ((i+k)% b.length) 0
def circ(a b:List Int):List Int:=(List.range a.length).map fun k=>cs a b k a.length
theorem jej(a b:List Int):(circ a b).length=a.length:=by simp[circ]
theorem jtk(a b:List Int)(k:Nat)(hb:1<=b.length):∀i,i<=a.length->absI (cs a b k i)<=sumAbs (a.take i)*maxAbs b
 |0,_=>by simp[cs,absI,sumAbs]
 | i + 1, hi => by
  have ih:=jtk a b k hb i (by omega);have h2:=jn4 (cs a b k i) (a.getD i 0*b.getD ((i+k)% b.length) 0);have h3:absI (a.getD i 0*b.getD ((i+k)% b.length) 0)<=absI (a.getD i 0)*maxAbs b:=by
   rw[jei];exact Int.mul_le_mul_of_nonneg_left (jip (jam (Nat.mod_lt _ (by omega)))) (jaN _)
  rw[jfu (by omega),Int.add_mul];simp only[cs];omega
def cpre(a b:List Int)(k i n:Nat):Int:=if n<k then cs a b n a.length else if n=k then cs a b k i else 0
def jbI(a b:List Int):Int:=
 if a.length=0 then 3 else if 8192<a.length then 4 else if a.length≠b.length then 10 else if a.any bigs=true\/b.any bigs=true then 2 else 0
theorem jm1(hC:Has C TA){x:Int}:ACalls C 46 [.int .i64 x] h (fun r h'=>r=.bool (bigs x)/\h'=h):=by
 refine zf 46 B46 hC ?_;simp only[B46,zB];refine zs ?_
 (repeat' (first|(refine kaf (fun _=>?_) (fun _=>?_))|(refine zs ?_)))
 all_goals(simp[bigs];omega)
theorem jqK{b:List Int}{i k:Nat}(hi:i<b.length)(hk:k<b.length):(b++b).getD (k+i) 0=b.getD ((i+k)% b.length) 0:=by
 simp only[List.getD_eq_getElem?_getD];by_cases c:i+k<b.length
 ·rw[Nat.mod_eq_of_lt c,List.getElem?_append_left (by omega),Nat.add_comm]
 ·rw[List.getElem?_append_right (by omega),Nat.mod_eq_sub_mod (by omega),Nat.mod_eq_of_lt (by omega),Nat.add_comm]
theorem jm2(hC:Has C TA){va vb:AV}{a b:List Int}{h:Heap}(ha:RI h va a)(hb:RI h vb b):
  ACalls C 25 [va,vb] h (fun r h'=>∃v',r=jai v' (jbI a b)/\HSub h h'/\RI h' v' (if jbI a b=0 then circ a b else[])/\(jbI a b=0->Fresh h h' v' (circ a b))):=by
 have asks:∀{l:List Int} {h:Heap},Asks C (.func 46 [] []) bigs l h:=fun{l h}=>⟨46,[],rfl,fun x _=>jm1 hC⟩;have l1:=ha.lt;have l2:=hb.lt;have c0:=hb.cells;have o0:=hb.one;have fin:∀e,jbI a b=e->e≠0->∃v',AV.tuple [.nilslice,.int .i64 e]=jai v' (jbI a b)/\HSub h h/\RI h v' (if jbI a b=0 then circ a b else[])/\(jbI a b=0->Fresh h h v' (circ a b)):=fun e h0 he=>⟨.nilslice,by rw[h0,jai],kag _,by rw[if_neg (by rw[h0];exact he)];exact kav,fun q=>absurd (h0.symm.trans q) he⟩;have pe:jbI a b=if a.length=0 then 3 else if 8192<a.length then 4 else if a.length≠b.length then 10 else if a.any bigs=true\/b.any bigs=true then 2 else 0:=rfl
 by_cases c0:a.length=0
 ·rw[if_pos c0]at pe;refine zf 25 B25 hC ?_;simp only[B25,zB];refine zs1 @ha.len ?_;exact fin 3 pe (by decide)
 rw[if_neg c0]at pe;by_cases c1:8192<a.length
 ·rw[if_pos c1]at pe;refine zf 25 B25 hC ?_;simp only[B25,zB];refine zs1 @ha.len ?_;exact fin 4 pe (by decide)
 rw[if_neg c1]at pe;by_cases c2:a.length≠b.length
 ·rw[if_pos c2]at pe;refine zf 25 B25 hC ?_;simp only[B25,zB];refine zs2 @ha.len @hb.len ?_;exact fin 10 pe (by decide)
 have c2':a.length=b.length:=by omega
 rw[if_neg c2]at pe;refine zf 25 B25 hC ?_;simp only[B25,zB];refine zs2 @ha.len @hb.len ?_;refine kaa (jbT hC ha asks) ?_;by_cases hA:a.any bigs=true
 ·rw[if_pos (.inl hA)]at pe;refine zs ?_;exact fin 2 pe (by decide)
 refine zs ?_;refine kaa (jbT hC hb asks) ?_;by_cases hB:b.any bigs=true
 ·rw[if_pos (.inr hB)]at pe;refine zs ?_;exact fin 2 pe (by decide)
 rw[if_neg (by rintro(h|h)<;>contradiction)]at pe;have sa:=jht (Bool.eq_false_iff.2 hA);have sb:=jht (Bool.eq_false_iff.2 hB);refine zs ?_;have s1:=jg5 sa;have s2:=jci a;have s3:=jg6 sb;have s4:=jcj b;have p2:sumAbs a*maxAbs b<=8192000000*1000000:=Int.mul_le_mul (by omega) s3 s4 (by omega);have hbb:RI (h.push (.cells [vb,vb] true 0)) vb b:=hb.mono (kac _ _);have efl:flatP [(vb,b),(vb,b)]=b++b:=by simp[flatP]
 refine kad (jmJ hC (ps:=[(vb,b),(vb,b)]) (j:=h.size) (u:=0) (wr:=true) (get_push_eq rfl) (by intro p hp;simp only[List.mem_cons,List.not_mem_nil,or_false]at hp;rcases hp with rfl|rfl<;>exact⟨hbb,by simp only;omega⟩) (by simp) (by rw[efl];simp;omega)) ?_;rintro r h1 A;rw[efl]at A;have A0:=A.sub;have hs0:HSub h h1:=(kac _ _).trans A0;have hr:=A.ri;have ha1:=ha.mono hs0;refine zs2 @ha.len @ja0 ?_;have hN:∀f:Nat->Int,((List.range a.length).map f).length=a.length:=fun f=>by simp
 refine jae (fun j t h'=>∃k:Nat,h'=h1.push (.cells (ints ((List.range a.length).map (cpre a b k 0))) true 0)/\t 0=va/\t 7=r/\t 8=.slice h1.size 0 a.length (.known a.length)/\t 40=.slice h1.size 0 a.length (.known a.length)/\t 41=.int .i64 a.length/\t 42=.int .i64 (k:Nat)/\k<=a.length/\j=a.length-k) (j0:=a.length)
  ⟨0,?_,rfl,rfl,rfl,rfl,rfl,rfl,by omega,rfl⟩ ?_
 ·have e:(List.range a.length).map (cpre a b 0 0)=List.replicate a.length 0:=by
   have:cpre a b 0 0=fun _=>0:=by funext n;simp[cpre,cs]
   rw[this,List.map_const',List.length_range]
  rw[e]
 rintro j t h2 ⟨k,rfl,e0,e7,e8,e40,e41,e42,hk,hj⟩;refine zs2 e41 e42 ?_;refine kaf (fun c=>?_) (fun c=>?_)
 ·have hk':k<a.length:=by omega
  refine zs3 e0 @ha.len e42 ?_;refine jae (fun j t h'=>∃i:Nat,h'=h1.push (.cells (ints ((List.range a.length).map (cpre a b k i))) true 0)/\t 0=va/\t 7=r/\t 8=.slice h1.size 0 a.length (.known a.length)/\t 40=.slice h1.size 0 a.length (.known a.length)/\t 41=.int .i64 a.length/\t 42=.int .i64 (k:Nat)/\t 9=.int .i64 (k:Nat)/\t 45=va/\t 46=.int .i64 a.length/\t 47=.int .i64 (i:Nat)/\i<=a.length/\j=a.length-i) (j0:=a.length)
   ⟨0,rfl,e0,e7,e8,e40,e41,e42,rfl,rfl,rfl,rfl,by omega,rfl⟩ ?_
  rintro j t h3 ⟨i,rfl,e0,e7,e8,e40,e41,e42,e9,e45,e46,e47,hi,hj⟩;refine zs2 e46 e47 ?_;refine kaf (fun c2=>?_) (fun c2=>?_)
  ·have hi':i<a.length:=by omega
   have hm:(i+k)% b.length<b.length:=Nat.mod_lt _ (by omega);have b1:=jm0 (Int.le_trans (jtk a b k (by omega) i hi) (Int.mul_le_mul_of_nonneg_right (je8 a i) s4));have b4:absI (a.getD i 0*b.getD ((i+k)% b.length) 0)<=1000000*1000000:=by
    rw[jei];exact Int.mul_le_mul (jf4 sa hi') (jf4 sb hm) (jaN _) (by omega)
   have b5:=jm0 b4;have g:((List.range a.length).map (cpre a b k i)).getD k 0=cs a b k i:=by rw[jcK hk'];simp[cpre]
   have hNk:=hN (cpre a b k i);have tg:=jqK (b:=b) (i:=i) (k:=k) (by omega) (by omega);have tl:(b++b).length=b.length+b.length:=List.length_append;have tn:((k:Int)+i).toNat=k+i:=by omega
   generalize hq:(i+k)% b.length=q at hm b4 b5 tg;refine zs7 e0 e7 e8 e9 e40 e41 (zI e42 (zI e45 (zI e46 (zI e47 (zI @ha1.idx (zI @hr.idx (zI @ha1.loadC (zI @hr.loadC (zI tn (zI tg g)))))))))) ?_;refine⟨_,⟨i+1,?_,by simp,by omega,rfl⟩,by omega⟩;rw[jlK (g:=cpre a b k (i+1)) (by simp[cpre,cs,hq]) (fun n hn=>by simp only[cpre,if_neg hn])]
  ·have:i=a.length:=by omega
   subst this;have e:cpre a b k a.length=cpre a b (k+1) 0:=by
    funext n;simp only[cpre];by_cases h1:n<k
    ·rw[if_pos h1,if_pos (by omega)]
    ·rw[if_neg h1];by_cases h2:n=k
     ·rw[if_pos h2,if_pos (by omega),h2]
     ·rw[if_neg h2,if_neg (by omega)];simp[cs]
   rw[e];refine zs6 e0 e7 e8 e40 e41 e42 ?_;exact⟨_,⟨k+1,rfl,by simp,by omega,rfl⟩,by omega⟩
 ·have:k=a.length:=by omega
  subst this;refine zs1 e8 ?_;have e:(List.range a.length).map (cpre a b a.length 0)=circ a b:=by
   refine List.map_congr_left fun n hn=>?_;rw[List.mem_range]at hn;simp only[cpre,if_pos hn]
  rw[e];have cl:=jej a b;exact⟨.slice h1.size 0 a.length (.known a.length),by simp only[pe,jai],hs0.push _,by rw[if_pos pe];exact kah (get_push_eq rfl) ⟨by rw[cl],by omega⟩ (by omega),fun _=>⟨hs0.push _,by omega,h1.size,hs0.size,by rw[cl],get_push_eq rfl⟩⟩
theorem jgI(hC:Has C TA){va vb:AV}{a b:List Int}{h:Heap}(ha:RI h va a)(hb:RI h vb b):
  ACalls C 25 [va,vb] h (fun r h'=>∃v',r=jai v' (jbI a b)/\HSub h h'/\RI h' v' (if jbI a b=0 then circ a b else[])):=
 (jm2 hC ha hb).mono fun _ _ ⟨v,q1,q2,q3,_⟩=>⟨v,q1,q2,q3⟩
theorem jkx(a:Int)(n:Nat):(a*a% pP)^(n/2)*a^(n% 2)% pP=a^n% pP:=by
 have:a^n=(a*a)^(n/2)*a^(n% 2):=by
  have h2:a*a=a^2:=by simp[Int.pow_succ]
  rw[h2,<-Int.pow_mul,<-Int.pow_add];congr 1;omega
 rw[this,Int.mul_emod,jhp,<-Int.mul_emod]
theorem jtR{o:Int}{m:Int}(hm:0<m)(h:m% 2=1):o*b% pP*(b*b% pP)^(m/2).toNat% pP=o*b^m.toNat% pP:=by
 have h1:(m/2).toNat=m.toNat/2:=by omega
 have h2:m.toNat% 2=1:=by omega
 have:=jkx b m.toNat;rw[h2,Int.pow_one]at this;rw[h1,jjr,Int.mul_assoc,Int.mul_comm b,Int.mul_emod,this,<-Int.mul_emod]
theorem jsi{o:Int}{m:Int}(hm:0<m)(h:¬m% 2=1):o*(b*b% pP)^(m/2).toNat% pP=o*b^m.toNat% pP:=by
 have h1:(m/2).toNat=m.toNat/2:=by omega
 have h2:m.toNat% 2=0:=by omega
 have:=jkx b m.toNat;rw[h2,Int.pow_zero,Int.mul_one]at this;rw[h1,Int.mul_emod,this,<-Int.mul_emod]
def powI(a n:Int):Int:=a^n.toNat% pP
theorem jeY(a n:Int):0<=powI a n/\powI a n<998244353:=⟨Int.emod_nonneg _ (by decide),Int.emod_lt_of_pos _ (by decide)⟩
theorem jek(hC:Has C TA){n:Int}(ha:0<=a/\a<998244353)(hn:0<=n/\n<=9223372036854775807):ACalls C 33 [.int .i64 a,.int .i64 n] h (fun r h'=>r=.int .i64 (powI a n)/\h'=h):=by
 refine zf 33 B33 hC ?_;simp only[B33,zB];refine zs ?_;refine jae (fun j t h'=>h'=h/\∃b m o,t 0=.int .i64 b/\t 1=.int .i64 m/\t 5=.int .i64 o/\0<=b/\b<998244353/\0<=m/\m<=n/\0<=o/\o<998244353/\j=m.toNat/\o*b^m.toNat% pP=a^n.toNat% pP) ⟨rfl,a,n,1,rfl,rfl,rfl,by omega,by omega,by omega,by omega,by omega,by omega,rfl,by rw[Int.one_mul]⟩ ?_;rintro j t h' ⟨rfl,b,m,o,e0,e1,e5,hb,hb',hm,hm',ho,ho',hj,he⟩;refine zs3 e0 e1 e5 ?_;have q1:0<=b*b:=Int.mul_nonneg hb hb;have q2:b*b<=998244353*998244353:=Int.mul_le_mul (by omega) (by omega) (by omega) (by omega)
 have q3:0<=o*b:=Int.mul_nonneg ho hb;have q4:o*b<=998244353*998244353:=Int.mul_le_mul (by omega) (by omega) (by omega) (by omega);refine kaf (fun c=>?_) (fun c=>?_)
 ·refine zs3 e0 e1 e5 ?_;refine kaf (fun c1=>?_) (fun c1=>?_)
  ·refine zs3 e0 e1 e5 ?_;exact⟨_,⟨_,_,_,rfl,rfl,rfl,by omega,by omega,by omega,by omega,by omega,by omega,rfl,by rw[<-he];exact jtR c (by omega)⟩,by omega⟩
  ·refine zs3 e0 e1 e5 ?_;exact⟨_,⟨_,_,_,rfl,rfl,rfl,by omega,by omega,by omega,by omega,by omega,by omega,rfl,by rw[<-he];exact jsi c (by omega)⟩,by omega⟩
 ·refine zs3 e0 e1 e5 ?_;have:m=0:=by omega
  subst this;rw[powI,<-he];simp only[Int.toNat_zero,Int.pow_zero,Int.mul_one];exact(Int.emod_eq_of_lt ho ho').symm
def isLen(n:Int):Bool:=decide (0<n/\n<=32768/\bitsA .and .i64 n (n-1)=0)
theorem jel{n:Int}(h:isLen n=true):0<n/\n<=32768:=by
 simp only[isLen,decide_eq_true_eq]at h;omega
def rootI(n:Int):Int:=powI 3 (998244352/n)
def sgn(x:Int):Int:=if 499122176<x then x-998244353 else x
theorem jm3(hC:Has C TA){x:Int}(ha:In64 x):ACalls C 35 [.int .i64 x] h (fun r h'=>r=.int .i64 (sgn x)/\h'=h):=by
 unfold In64 at ha;refine zf 35 B35 hC ?_;simp only[B35,zB];refine zs ?_
 (repeat' (first|(refine kaf (fun _=>?_) (fun _=>?_))|(refine zs ?_)))
 ·rw[sgn,if_pos (by omega)]
 ·rw[sgn,if_neg (by omega)]
def invI(l:List Int):List Int:=(dft (powI (rootI l.length) 998244351) l).map fun x=>x*powI l.length 998244351% pP
theorem jfv(l:List Int):(invI l).length=l.length:=by simp[invI,jaY]
def VW(l:List Int)(s:Nat)(xs:List Int):Prop:=
 1<=s/\1<=xs.length/\(xs.length-1)*s<l.length/\l.length<=xs.length*s/\∀i,i<xs.length->l.getD (i*s) 0=xs.getD i 0
theorem VW.size{xs:List Int}{s:Nat}(H:VW l s xs):(l.length+s-1)/s=xs.length:=by
 obtain⟨h1,h2,h3,h4,_⟩:=H;have e:(xs.length-1)*s=xs.length*s-s:=by rw[Nat.sub_mul,Nat.one_mul]
 have e2:s<=xs.length*s:=Nat.le_mul_of_pos_left s h2;apply Nat.div_eq_of_lt_le
 ·omega
 ·rw[Nat.add_mul,Nat.one_mul];omega
theorem kbO(h:1<=l.length):VW l 1 l:=by
 refine⟨by omega,h,by omega,by omega,fun i _=>by rw[Nat.mul_one]⟩
theorem jiq:∀(l:List Int) (i:Nat),(evens l).getD i 0=l.getD (2*i) 0
 |[],i=>by simp[evens]
 |[x],i=>by cases i<;>simp[evens]
 |x::y::l,0=>by simp[evens]
 |x::y::l,i+1=>by
  have:=jiq l i;simpa[evens,Nat.mul_add]using this
theorem jky:∀(l:List Int) (i:Nat),(odds l).getD i 0=l.getD (2*i+1) 0
 |[],i=>by simp[odds]
 |[x],i=>by simp[odds]
 |x::y::l,0=>by simp[odds]
 |x::y::l,i+1=>by
  have:=jky l i;simpa[odds,Nat.mul_add]using this
theorem VW.even{xs:List Int}{s m:Nat}(H:VW l s xs)(hm:xs.length=2*m)(h1:1<=m):VW l (2*s) (evens xs):=by
 obtain⟨q1,q2,q3,q4,q5⟩:=H;have e:(evens xs).length=m:=by rw[jcI];omega
 have e1:(xs.length-1)*s=xs.length*s-s:=by rw[Nat.sub_mul,Nat.one_mul]
 have e2:xs.length*s=2*(m*s):=by rw[hm,Nat.mul_assoc]
 have e3:m*(2*s)=2*(m*s):=by rw[Nat.mul_left_comm]
 have e4:(m-1)*(2*s)=2*(m*s)-2*s:=by rw[Nat.sub_mul,Nat.one_mul,e3]
 have e5:s<=m*s:=Nat.le_mul_of_pos_left s h1;refine⟨by omega,by omega,by rw[e];omega,by rw[e];omega,fun i hi=>?_⟩;rw[jiq,<-q5 (2*i) (by omega)];congr 1;rw[Nat.mul_left_comm,Nat.mul_assoc]
theorem VW.odd{xs:List Int}{s m:Nat}(H:VW l s xs)(hm:xs.length=2*m)(h1:1<=m):VW (l.drop s) (2*s) (odds xs):=by
 obtain⟨q1,q2,q3,q4,q5⟩:=H;have e:(odds xs).length=m:=by rw[jc6];omega
 have e1:(xs.length-1)*s=xs.length*s-s:=by rw[Nat.sub_mul,Nat.one_mul]
 have e2:xs.length*s=2*(m*s):=by rw[hm,Nat.mul_assoc]
 have e3:m*(2*s)=2*(m*s):=by rw[Nat.mul_left_comm]
 have e4:(m-1)*(2*s)=2*(m*s)-2*s:=by rw[Nat.sub_mul,Nat.one_mul,e3]
 have e5:s<=m*s:=Nat.le_mul_of_pos_left s h1;refine⟨by omega,by omega,by rw[e,List.length_drop];omega,by rw[e,List.length_drop];omega,fun i hi=>?_⟩;rw[jky,<-q5 (2*i+1) (by omega)];simp only[List.getD_eq_getElem?_getD,List.getElem?_drop];congr 2;rw[Nat.add_mul,Nat.one_mul,Nat.mul_left_comm,Nat.mul_assoc];omega
theorem jlL(hC:Has C TA){v:AV}{s:Nat}(hl:RI h v l)(hs:1<=s/\s<=65536/\l.length<=65536):ACalls C 57 [.agg [v,.int .i64 s]] h (fun r h'=>r=.int .i64 (((l.length+s-1)/s:Nat))/\h'=h):=by
 have hlt:=hl.lt;refine kae (P:=fun r h'=>r=.int .i64 (((l.length+s-1)/s:Nat))/\HSub h h') ?_ (fun r h' hp=>⟨by rw[hp.1];trivial,hp.2,hp.1,rfl⟩);have e:(l.length:Int)+s-1=((l.length+s-1:Nat):Int):=by omega
 have q1:((l.length+s-1)/s:Nat)<=l.length+s-1:=Nat.div_le_self _ _;have e2:((l.length:Int)+s-1)/(s:Int)=(((l.length+s-1)/s:Nat):Int):=by rw[e];exact Int.natCast_ediv _ _
 generalize (l.length+s-1)/s=q at q1 e2;refine zf 57 B57 hC ?_;simp only[B57,zB];refine zs2 @hl.len e2 ?_;exact kac _ _
theorem jtS(hC:Has C TA){v:AV}{s i:Nat}(hl:RI h v l)(hi:i*s<l.length):ACalls C 58 [.agg [v,.int .i64 s],.int .i64 (i:Nat)] h (fun r h'=>r=.int .i64 (l.getD (i*s) 0)/\h'=h):=by
 have hlt:=hl.lt;refine kae (P:=fun r h'=>r=.int .i64 (l.getD (i*s) 0)/\HSub h h') ?_ (fun r h' hp=>⟨by rw[hp.1];trivial,hp.2,hp.1,rfl⟩);have e:(i:Int)*s=((i*s:Nat):Int):=by rw[Int.natCast_mul]
 have hl':=hl.mono (kac h (.cells [v,.int .i64 s] true 0));generalize i*s=q at hi e;refine zf 58 B58 hC ?_;simp only[B58,zB];refine zs3 e @hl.idx @hl'.load ?_;exact kac _ _
theorem jm4(hC:Has C TA){v:AV}{l:List Int}{s:Nat}{h:Heap}(hl:RI h v l)(hs:1<=s/\s<=l.length/\s<=65536):
  ACalls C 59 [.agg [v,.int .i64 s]] h (fun r h'=>∃va vb,r=.tuple [.agg [va,.int .i64 (2*s:Nat)],.agg [vb,.int .i64 (2*s:Nat)]]/\HSub h h'/\RI h' va l/\RI h' vb (l.drop s)):=by
 have hlt:=hl.lt;obtain⟨va,ea,Ha⟩:=hl.part_bc (k2:=.i64) (k3:=.i64) (b:=l.length) (c:=l.length) (by omega);obtain⟨vb,eb,Hb⟩:=hl.part_abc (k1:=.i64) (k2:=.i64) (k3:=.i64) (a:=s) (b:=l.length) (c:=l.length) (by omega);have Ha':RI h va l:=by simpa using Ha
 have Hb':RI h vb (l.drop s):=by
  have:(l.drop (s:Int).toNat).take ((l.length:Int).toNat-(s:Int).toNat)=l.drop s:=by
   rw[Int.toNat_natCast,Int.toNat_natCast];exact List.take_of_length_le (by simp)
  rw[this]at Hb;exact Hb
 have ca:=Ha.cells;have cb:=Hb.cells;have oa:=Ha.one;have ob:=Hb.one;refine zf 59 B59 hC ?_;simp only[B59,zB];refine zs3 @hl.len ea eb ?_;refine⟨kbA hl (by omega),va,vb,rfl,?_,Ha'.mono ?_,Hb'.mono ?_⟩;all_goals exact(((kag h).push _).push _).push _
theorem jm5(hC:Has C TA){w:Int}:ACalls C 60 [.int .i64 w] h (fun r h'=>r=.func 61 [] [.ptr h.size 0]/\h'=h.push (.cells [.int .i64 w] true 0)):=by
 refine zf 60 B60 hC ?_;simp only[B60,zB];exact ze
theorem jlM(hC:Has C TA){l b:Nat}{w:Int}{h:Heap}(hw:0<=w/\w<998244353)(J:Nat->Heap->Prop)(D:Heap->Prop)(M:Nat)(h0:J 0 h)(hb:∀k h',J k h'->h'.get b=some (.cells [.int .i64 w] true 0))(hM:∀k h',J k h'->k<=M)
  (hy:∀k h',J k h'->jfR C l [.int .i64 (w^k% pP)] h' (fun r h''=>(r=.bool true/\J (k+1) h'')\/(r=.bool false/\D h''))):
  ACalls C 61 [.yield l,.ptr b 0] h (fun _ h'=>D h'):=by
 refine zf 61 B61 hC ?_;simp only[B61,zB];refine zs ?_;refine jae (fun j t h'=>∃k:Nat,J k h'/\t 0=.yield l/\t 1=.ptr b 0/\t 3=.int .i64 (w^k% pP)/\j=M-k) (j0:=M) ⟨0,h0,rfl,rfl,by rw[Int.pow_zero];rfl,rfl⟩ ?_;rintro j t h' ⟨k,hJ,e0,e1,e3,hj⟩;refine zs2 e0 e3 ?_;refine kaE (hy k h' hJ) ?_;rintro r h'' (⟨rfl,hJ'⟩|⟨rfl,hD⟩)
 ·have hq:0<=w^k% pP/\w^k% pP<998244353:=⟨Int.emod_nonneg _ (by decide),Int.emod_lt_of_pos _ (by decide)⟩;have m1:0<=w^k% pP*w:=Int.mul_nonneg hq.1 hw.1;have m2:w^k% pP*w<=998244353*998244353:=Int.mul_le_mul (by omega) (by omega) (by omega) (by omega);simp-implicitDefEqProofs (disch:=first|exact zd|fail) only[↓wpPre,jbx,jby,Int.reduceToNat,Int.reducePow,Int.reduceMul,Int.reduceAdd,Int.reduceSub,Int.reduceNeg,Nat.reduceAdd,Nat.reduceMul,Nat.reducePow,Int.reduceLT,Int.reduceLE,Int.reduceEq,Nat.reduceEqDiff,e0,e1,e3,hb _ _ hJ'];have:=hM _ _ hJ'
  exact⟨_,⟨k+1,hJ',by rw[jjr,Int.pow_succ],rfl⟩,by omega⟩
 ·refine zs1 e0 ?_;exact hD
def Half(D X:List Int)(m k:Nat):Prop:=X.length=2*m/\∀j,j<k->X.getD j 0=D.getD j 0/\X.getD (j+m) 0=D.getD (j+m) 0
theorem Half.full{D X:List Int}{m:Nat}(H:Half D X m m)(hD:D.length=2*m):X=D:=by
 refine List.ext_getElem (by rw[H.1,hD]) fun i h1 h2=>?_;have e1:X[i]=X.getD i 0:=by simp[h1]
 have e2:D[i]=D.getD i 0:=by simp[h2]
 rw[e1,e2];by_cases hi:i<m
 ·exact(H.2 i hi).1
 ·have:=(H.2 (i-m) (by omega)).2
  rwa [show i-m+m=i by omega]at this
theorem Half.step{D X:List Int}{m k:Nat}{x y:Int}(H:Half D X m k)(hk:k<m)(hx:x=D.getD k 0)(hy:y=D.getD (k+m) 0):Half D ((X.set k x).set (k+m) y) m (k+1):=by
 refine⟨by simp[H.1],fun j hj=>?_⟩;have hl:=H.1;by_cases e:j=k
 ·subst e;refine⟨?_,?_⟩
  ·rw[<-hx];simp[List.getElem?_set,List.getElem_set,show ¬j+m=j by omega,show ¬m=0 by omega,show j<X.length by omega]
  ·rw[<-hy];simp[List.getElem?_set,show j+m<X.length by omega]
 ·have:=H.2 j (by omega);refine⟨?_,?_⟩
  ·rw[<-this.1];simp[List.getElem?_set,show ¬k+m=j by omega,show ¬k=j by omega]
  ·rw[<-this.2];simp[List.getElem?_set,show ¬k=j by omega,show ¬k=j+m by omega]
theorem je9(hC:Has C TA):∀(k:Nat) {v:AV} {l xs:List Int} {s:Nat} {w:Int} {h:Heap},RI h v l->VW l s xs->xs.length=2^k->(∀x∈xs,0<=x/\x<998244353)->jcO k w->0<=w/\w<998244353->s*2^k<=32768->
  ACalls C 49 [.agg [v,.int .i64 s],.int .i64 w] h (fun r h'=>Fresh h h' r (dft w xs)):=by
 intro k
 induction k with
 | zero =>
  intro v l xs s w h hl hv hn hr hw hw' hs;have hlt:=hl.lt;have hv':=hv;obtain⟨v1,v2,v3,v4,v5⟩:=hv';have c0:=hl.cells;have o0:=hl.one;rw[Nat.pow_zero]at hn hs;have hL:l.length<=32768:=by have v4':=v4;rw[hn]at v4';omega
  refine zf 49 B49 hC ?_;simp only[B49,zB];refine zs ?_;refine kaa (jlL hC (hl.mono (kac _ _)) (by omega)) ?_;rw[hv.size,hn];refine zs ?_;refine kaa (jtS hC (i:=0) (hl.mono ((kac _ _).push _)) (by omega)) (zs ?_);have e:=v5 0 (by omega);rw[Nat.zero_mul]at e;rw[e];have hd:dft w xs=[xs.getD 0 0]:=by
   match xs,hn with
   |[x],_=>
    have:=hr x (by simp);have h2:x% pP=x:=Int.emod_eq_of_lt this.1 this.2;simp[dft,pe,h2]
  rw[hd];exact⟨((kac _ _).push _).push _,by simp,h.size+1+1,by omega,rfl,get_push_eq (by simp)⟩
 | succ k ih =>
  intro v l xs s w h hl hv hn hr hw hw' hs;have hlt:=hl.lt;have hv':=hv;obtain⟨v1,v2,v3,v4,v5⟩:=hv';have c0:=hl.cells;have o0:=hl.one;have hlow:=@jtM w xs;have hhigh:=fun q=>@jr9 w xs q k hw;have hwh:=hw.half;have hpos:1<=2^k:=Nat.one_le_two_pow;rw[Nat.pow_succ,Nat.mul_comm _ 2]at hn hs;generalize hm:2^k=m at*;have hs1:s<=s*(2*m):=Nat.le_mul_of_pos_right s (by omega);have hm1:2*m<=s*(2*m):=Nat.le_mul_of_pos_left (2*m) (by omega);have hs2:2*s*m<=32768:=by rw[Nat.mul_assoc,Nat.mul_left_comm];exact hs
  have hsl:s<=l.length:=by
   have e1:(2*m-1)*s=2*m*s-s:=by rw[Nat.sub_mul,Nat.one_mul]
   have e2:2*s<=2*m*s:=Nat.mul_le_mul_right s (by omega);rw[hn,e1]at v3;omega
  have hL:l.length<=32768:=by have v4':=v4;rw[hn,Nat.mul_comm]at v4';omega
  have m1:0<=w*w:=Int.mul_nonneg hw'.1 hw'.1;have m2:w*w<=998244353*998244353:=Int.mul_le_mul (by omega) (by omega) (by omega) (by omega);have m3:0<=w*w% pP/\w*w% pP<998244353:=⟨Int.emod_nonneg _ (by decide),Int.emod_lt_of_pos _ (by decide)⟩;refine zf 49 B49 hC ?_;simp only[B49,zB];refine zs ?_;refine kaa (jlL hC (hl.mono (kac _ _)) (by omega)) ?_;rw[hv.size,hn];refine zs ?_;refine kad (jm4 hC (hl.mono ((kac _ _).push _)) (by omega)) ?_;rintro r h1 ⟨va,vb,rfl,hs1',Ha,Hb⟩;have z1:=hs1'.size;simp only[Heap.size_push]at z1;have ca:=Ha.cells;have oa:=Ha.one
  have cb:=Hb.cells;have ob:=Hb.one;have g1:=hs1'.get;refine zs1 g1 ?_;have xe:(evens xs).length=m:=by rw[jcI];omega
  have xo:(odds xs).length=m:=by rw[jc6];omega
  have re:∀x∈evens xs,0<=x/\x<998244353:=fun x hx=>by
   obtain⟨i,hi,rfl⟩:=List.mem_iff_getElem.1 hx;have:=jiq xs i;simp only[List.getD_eq_getElem?_getD,hi,List.getElem?_eq_getElem,Option.getD_some]at this;rw[this,<-List.getD_eq_getElem?_getD];exact hr _ (jam (by omega))
  have ro:∀x∈odds xs,0<=x/\x<998244353:=fun x hx=>by
   obtain⟨i,hi,rfl⟩:=List.mem_iff_getElem.1 hx;have:=jky xs i;simp only[List.getD_eq_getElem?_getD,hi,List.getElem?_eq_getElem,Option.getD_some]at this;rw[this,<-List.getD_eq_getElem?_getD];exact hr _ (jam (by omega))
  refine kad (ih (Ha.mono (((kac _ _).push _).reserve _)) (hv.even hn (by omega)) xe re hwh m3 hs2) ?_;rintro r1 h2 F1;have F1':=F1;obtain⟨hsa,hla,i1,hi1,rfl,hg1⟩:=F1';have z2:=hsa.size;simp only[Heap.size_push,Heap.size_reserve]at z2 hi1;have g2:=hsa.get;have ga:=kab hg1;refine zs1 g2 ?_;refine kad (ih (Hb.mono ((((kac _ _).push _).reserve _).trans hsa)) (hv.odd hn (by omega)) xo ro hwh m3 hs2) ?_;rintro r2 h3 F2;have F2':=F2;obtain⟨hsb,hlb,i2,hi2,rfl,hg2⟩:=F2';have z3:=hsb.size;have g3:=hsb.get;have gb:=kab hg2;have hg1':=(hsb.get i1 ga).trans hg1;refine zs4 g2 g3 g1 @Heap.wf ?_
  refine kal (fun H hH=>?_);have N:H.size=h3.size+3:=by rw[hH];exact ze
  have b5:H.get (h.size+1)=some (.cells [.int .i64 (2*m:Nat)] true 0):=by
   rw[hH];exact ze3 g3 g2 g1
  have b8:H.get (h1.size+1+1+12)=some (.cells [.slice i1 0 (dft (w*w% pP) (evens xs)).length (.known (dft (w*w% pP) (evens xs)).length)] true 0):=by
   rw[hH];exact ze
  have b9:H.get (h1.size+1+1+13)=some (.cells [.slice i2 0 (dft (w*w% pP) (odds xs)).length (.known (dft (w*w% pP) (odds xs)).length)] true 0):=by
   rw[hH];exact ze
  have bo:H.get h3.size=some (.cells (ints (List.replicate (2*m) 0)) true 0):=by
   rw[hH,<-ja0];exact ze
  have b10:H.get (h3.size+1)=some (.cells [.slice h3.size 0 (2*m) (.known (2*m))] true 0):=by
   rw[hH];exact ze
  have b11:H.get (h3.size+2)=some (.cells [.int .i64 0] true 0):=by
   rw[hH];exact ze
  have bA:H.get i1=some (.cells (ints (dft (w*w% pP) (evens xs))) true 0):=by
   rw[hH];exact ze1 @hg1'
  have bB:H.get i2=some (.cells (ints (dft (w*w% pP) (odds xs))) true 0):=by
   rw[hH];exact ze1 hg2
  have hsH:HSub h H:=by
   have q0:HSub h h3:=((((kac h _).push _).trans hs1').trans ((((kac h1 _).push _).reserve _).trans hsa)).trans hsb;rw[hH];exact((((((q0.put (by omega) _).put (by omega) _).put (by omega) _).put (by omega) _).push _).push _).push _
  clear hH;refine kaa (jm5 hC) (zs ?_);have hDl:=jaY w xs;have hEl:=jaY (w*w% pP) (evens xs);have hOl:=jaY (w*w% pP) (odds xs);generalize hE:dft (w*w% pP) (evens xs)=E at*;generalize hO:dft (w*w% pP) (odds xs)=O at*;have rE:∀x∈E,0<=x/\x<998244353:=by rw[<-hE];exact jdI
  have rO:∀x∈O,0<=x/\x<998244353:=by rw[<-hO];exact jdI
  refine jb5 (D:=fun h'=>∃R,h'.get (H.size+2)=some (.loop R)/\R.state=.done/\R.pend=some (.exit 0)/\HSub h h'/\h'.get (H.size+1)=some (.defd true)/\
   h'.get (h3.size+1)=some (.cells [.slice h3.size 0 (2*m) (.known (2*m))] true 0)/\h'.get h3.size=some (.cells (ints (dft w xs)) true 0)/\H.size+3<=h'.size) ?_ ?_
  ·refine kaq (fun R hR=>?_);show ACalls C 61 [.yield (H.size+2),.ptr H.size 0] _ _;have rs:R.state=.ready:=by rw[hR]
   have rp:R.pend=none:=by rw[hR]
   have rb:=jdG rs rp;refine jlM hC hw' (fun k h'=>∃X,Half (dft w xs) X m k/\k<=m/\h'.get (H.size+2)=some (.loop R)/\h'.get H.size=some (.cells [.int .i64 w] true 0)/\h'.get (H.size+1)=some (.defd true)/\HSub h h'/\H.size+3<=h'.size/\
    h'.get (h.size+1)=some (.cells [.int .i64 (2*m:Nat)] true 0)/\
    h'.get (h1.size+1+1+12)=some (.cells [.slice i1 0 E.length (.known E.length)] true 0)/\
    h'.get (h1.size+1+1+13)=some (.cells [.slice i2 0 O.length (.known O.length)] true 0)/\
    h'.get h3.size=some (.cells (ints X) true 0)/\
    h'.get (h3.size+1)=some (.cells [.slice h3.size 0 (2*m) (.known (2*m))] true 0)/\
    h'.get (h3.size+2)=some (.cells [.int .i64 (k:Nat)] true 0)/\
    h'.get i1=some (.cells (ints E) true 0)/\h'.get i2=some (.cells (ints O) true 0)) _ m ?_ ?_ ?_ ?_
   ·refine⟨List.replicate (2*m) 0,⟨by simp,by omega⟩,by omega,?_,?_,?_,?_,?_,?_,?_,?_,?_,?_,?_,?_,?_⟩
    ·exact ze
    ·exact ze
    ·exact ze
    ·exact((hsH.push _).push _).push _
    ·refine zs ?_;omega
    ·exact ze1 b5
    ·exact ze1 b8
    ·exact ze1 b9
    ·exact ze1 bo
    ·exact ze1 b10
    ·refine zs1 b11 ?_;rfl
    ·exact ze1 bA
    ·exact ze1 bB
   ·rintro k h' ⟨X,_,_,_,q,_⟩;exact q
   ·rintro k h' ⟨X,_,q,_⟩;exact q
   ·rintro k h' ⟨X,hX,hk,hl,hw1,hd,hsub,hsz,q5,q8,q9,qo,q10,q11,qA,qB⟩;refine jcp hl rs (by rw[hR];rfl) ?_;simp only[congrArg ALoop.nt hR,congrArg ALoop.t hR,congrArg ALoop.params hR,congrArg ALoop.assign hR,congrArg ALoop.body hR];have hXl:=hX.1;refine zs4 hl rs q11 q5 ?_;refine kaf (fun c=>?_) (fun c=>?_)
    ·have:k=m:=by omega
     subst this;refine zs1 hl ?_;refine .inr ⟨_,rfl,rfl,rfl,?_⟩;refine⟨hsub.put (by omega) _,?_,?_,?_,?_⟩
     ·exact ze1 hd
     ·exact ze1 q10
     ·rw[<-hX.full (hDl.trans hn)];exact ze1 qo
     ·first|omega|(simp only[Heap.size_put];omega)
    ·have hk':k<m:=by omega
     have hek:k<E.length:=by omega
     have hok:k<O.length:=by omega
     have rEk:=rE _ (jam hek);have rOk:=rO _ (jam hok);have rq:0<=w^k% pP/\w^k% pP<998244353:=⟨Int.emod_nonneg _ (by decide),Int.emod_lt_of_pos _ (by decide)⟩;have n1:0<=O.getD k 0*(w^k% pP):=Int.mul_nonneg rOk.1 rq.1;have n2:O.getD k 0*(w^k% pP)<=998244353*998244353:=Int.mul_le_mul (by omega) (by omega) (by omega) (by omega);have tn:((k:Int)+((2*m:Nat):Int)/2).toNat=k+m:=by omega
     refine zs7 hl rs q11 q5 q8 q9 (zI qA (zI qB (zI qo (zI q10 tn)))) ?_;refine .inl ⟨_,hX.step hk' (hlow hn hk').symm (hhigh k hn hk').symm,by omega,by rw[rb],hw1,hd,(((hsub.put (by omega) _).put (by omega) _).put (by omega) _).put (by omega) _,by omega,rfl,by simp⟩
  ·rintro h' ⟨R,hl,hst,hpd,hsub,hd,q10,qo,hsz⟩;refine⟨R,hl,by rw[hst];decide,?_⟩;rw[hpd];show jcD _ _ (.exit 0) _;refine zs2 hd q10 ?_;refine⟨(hsub.put (by omega) _).put (by omega) _,by omega,h3.size,by omega,by rw[hDl,hn],?_⟩;exact ze1 qo
theorem jsj(ha:0<=a/\a<=9223372036854775807)(hb:0<=b/\b<=9223372036854775807):bitsA .and .i64 a b=((a.toNat&&&b.toNat:Nat):Int):=by
 obtain⟨m,rfl⟩:=Int.eq_ofNat_of_zero_le ha.1;obtain⟨n,rfl⟩:=Int.eq_ofNat_of_zero_le hb.1;have e:∀k:Nat,k<=9223372036854775807->(BitVec.ofInt 64 (k:Int)).toNat=k:=by
  intro k hk;rw[BitVec.toNat_ofInt];have:((k:Int)% ((2^64:Nat):Int)).toNat=k:=by
   rw[Int.emod_eq_of_lt (by omega) (by omega)];simp
  exact this
 show IntKind.i64.wrap ((BitVec.ofInt 64 (m:Int)&&&BitVec.ofInt 64 (n:Int)).toNat:Int)=_;rw[BitVec.toNat_and,e m (by omega),e n (by omega),Int.toNat_natCast,Int.toNat_natCast];have:m&&&n<=m:=Nat.and_le_left;exact w_i64 (by omega)
theorem jir{n:Nat}(h:isLen n=true):∃k,k<=15/\n=2^k:=by
 have hr:=jel h;simp only[isLen,decide_eq_true_eq]at h;obtain⟨h1,h2,h3⟩:=h;rw[jsj (by omega) (by omega)]at h3;have e:((n:Int)-1).toNat=n-1:=by omega
 rw[e,Int.toNat_natCast]at h3;obtain⟨k,rfl⟩:=(Nat.and_sub_one_eq_zero_iff_isPowerOfTwo (n:=n) (by omega)).1 (by exact_mod_cast h3);refine⟨k,?_,rfl⟩;rcases Nat.lt_or_ge 15 k with hk|hk
 ·have:2^16<=2^k:=Nat.pow_le_pow_right (by decide) hk;omega
 ·exact hk
def pmod:Nat->Int->Nat->Int
 |0,_,_=>1
 |f+1,a,n=>if n=0 then 1 else if n% 2=1 then a*pmod f (a*a% pP) (n/2)% pP else pmod f (a*a% pP) (n/2)
theorem jm6:∀(f:Nat) (a:Int) (n:Nat),n<2^f->pmod f a n% pP=a^n% pP
 |0,a,n,h=>by
  have:n=0:=by simpa using h
  subst this;rw[Int.pow_zero];rfl
 | f + 1, a, n, h => by
  unfold pmod;by_cases h0:n=0
  ·rw[if_pos h0,h0,Int.pow_zero]
  ·rw[if_neg h0];have ih:=jm6 f (a*a% pP) (n/2) (by rw[Nat.pow_succ]at h;omega);have hh:=jkx a n;by_cases h1:n% 2=1
   ·rw[if_pos h1,Int.emod_emod,Int.mul_emod,ih,<-Int.mul_emod,Int.mul_comm];rw[h1,Int.pow_one]at hh;exact hh
   ·rw[if_neg h1,ih];have h2:n% 2=0:=by omega
    rw[h2,Int.pow_zero,Int.mul_one]at hh;exact hh
theorem jpc:(3:Int)^499122176% pP=998244352:=by
 rw[<-jm6 30 3 499122176 (by decide)];decide+kernel
theorem jis{k:Nat}(hk:k<=15):jcO k (rootI ((2^k:Nat):Int)):=by
 rintro j rfl;unfold rootI powI;rw[jhp,<-Int.pow_mul];have:(998244352/((2^(j+1):Nat):Int)).toNat*2^j=499122176:=by
  have hj:j<=14:=by omega
  rcases Nat.lt_or_ge j 8 with h|h<;>(
   match j,h,hj with
   |0,_,_|1,_,_|2,_,_|3,_,_|4,_,_|5,_,_|6,_,_|7,_,_|8,_,_|9,_,_|10,_,_|11,_,_|12,_,_|13,_,_|14,_,_=>rfl)
 rw[this,jpc]
theorem jdb:∀n:Nat,(-1:Int)^(2*n+1)= -1
 |0=>rfl
 |n+1=>by rw[show 2*(n+1)+1=(2*n+1)+2 by omega,Int.pow_add,jdb n];rfl
theorem jcO.inv{k:Nat}{w:Int}(h:jcO k w):jcO k (powI w 998244351):=by
 rintro j rfl;have:=h j rfl;unfold powI;rw[jhp,<-Int.pow_mul,Nat.mul_comm,Int.pow_mul];have hc:Cg (w^2^j) (-1):=by unfold Cg;rw[this];decide
 have e:(998244351:Int).toNat=2*499122175+1:=by decide
 rw[e];have h2:=hc.pow (2*499122175+1);rw[jdb]at h2;unfold Cg at h2;rw[h2];decide
theorem jlN(hC:Has C TA){v:AV}{l:List Int}{h:Heap}(hl:RI h v l)(hlen:isLen l.length=true)(hr:∀x∈l,0<=x/\x<998244353):
  ACalls C 27 [v] h (fun r h'=>Fresh h h' r (dft (rootI l.length) l)):=by
 have hlt:=hl.lt;have q:=jel hlen;have q1:0<=998244352/(l.length:Int):=Int.ediv_nonneg (by omega) (by omega);have q2:998244352/(l.length:Int)<=998244352:=Int.ediv_le_self _ (by omega);obtain⟨k,hk,he⟩:=jir hlen;have c0:=hl.cells;refine zf 27 B27 hC ?_;simp only[B27,zB];refine zs1 @hl.len ?_;refine kaa (jek hC (by omega) (by omega)) (zs ?_);refine kad (je9 hC k hl (kbO (by omega)) he hr (by rw[he];exact jis hk) (jeY _ _) (by rw[Nat.one_mul,<-he];omega)) ?_;rintro r h' F;refine zs ?_;exact F
theorem jqL(hC:Has C TA){v:AV}{l:List Int}{h:Heap}(hl:RI h v l)(hlen:isLen l.length=true)(hr:∀x∈l,0<=x/\x<998244353):
  ACalls C 30 [v] h (fun r h'=>Fresh h h' r (invI l)):=by
 have hlt:=hl.lt;have q:=jel hlen;have q1:0<=998244352/(l.length:Int):=Int.ediv_nonneg (by omega) (by omega);have q2:998244352/(l.length:Int)<=998244352:=Int.ediv_le_self _ (by omega);obtain⟨k,hk,he⟩:=jir hlen;have c0:=hl.cells;refine zf 30 B30 hC ?_;simp only[B30,zB];refine zs1 @hl.len ?_;refine kaa (jek hC (by omega) (by omega)) (zs ?_);refine kaa (jek hC (jeY _ _) (by omega)) (zs ?_);refine kad (je9 hC k hl (kbO (by omega)) he hr (w:=powI (rootI l.length) 998244351) (jcO.inv (by rw[he];exact jis hk)) (jeY _ _) (by rw[Nat.one_mul,<-he];omega)) ?_
 rintro r h1 F;refine zs1 @hl.len ?_;refine kaa (jek hC (by omega) (by omega)) ?_;have hm:=jeY l.length 998244351;have hdr:=jdI (w:=powI (rootI l.length) 998244351) (l:=l);have hdl:=jaY (powI (rootI l.length) 998244351) l;generalize hm':powI l.length 998244351=m at hm;generalize hd:dft (powI (rootI l.length) 998244351) l=d at hdr hdl F;obtain⟨hsub,hdlt,i0,hi0,rfl,hg⟩:=F;have hi1:=kab hg;refine zs ?_;refine jae (fun j t h'=>∃i:Nat,HSub h h'/\i0<h'.size/\h'.get i0=some (.cells (ints (jb6 (fun x=>x*m% pP) d i)) true 0)/\t 4=.slice i0 0 d.length (.known d.length)/\t 5=.int .i64 m/\t 20=.int .i64 d.length/\t 21=.int .i64 (i:Nat)/\i<=d.length/\j=d.length-i)
  ⟨0,hsub,hi1,by rw[jc8,hg],rfl,rfl,rfl,rfl,by omega,rfl⟩ ?_
 rintro j t h' ⟨i,hs',hi0',hg',e4,e5,e20,e21,hi,hj⟩;have hml:=jcf (fun x=>x*m% pP) d i;refine zs3 e4 e20 e21 ?_;refine kaf (fun c2=>?_) (fun c2=>?_)
 ·have hi':i<d.length:=by omega
  have hg2:=jdJ (fun x=>x*m% pP) hi';have g1:=hdr _ (jam hi');have m1:0<=d.getD i 0*m:=Int.mul_nonneg g1.1 hm.1;have m2:d.getD i 0*m<=998244353*998244353:=Int.mul_le_mul (by omega) (by omega) (by omega) (by omega);refine zs6 e4 e5 e20 e21 hg' hg2 ?_;exact⟨_,⟨i+1,hs'.put (by omega) _,hi0',by rw[<-jdK _ hi'],by simp,by omega,rfl⟩,by omega⟩
 ·have:i=d.length:=by omega
  subst this;refine zs1 e4 ?_;have e:jb6 (fun x=>x*m% pP) d d.length=invI l:=by rw[jc9,invI,hd,hm']
  have e2:=jfv l;exact⟨hs',by omega,i0,hi0,by rw[e2,hdl],by rw[<-e];exact hg'⟩
def gs(z:Int):Nat->Int
 |0=>1
 |m+1=>gs z m*(1+z^2^m)
def ones(n:Nat):List Int:=List.replicate n 1
theorem jqM(z:Int):∀m,pe (ones (2^m)) z=gs z m
 |0=>by simp[ones,pe,gs]
 | m + 1 => by
  have ih:=jqM z m;have e:ones (2^(m+1))=ones (2^m)++ones (2^m):=by
   rw[Nat.pow_succ,Nat.mul_two];exact List.replicate_append_replicate.symm
  rw[e,jeC,ih];simp only[ones,List.length_replicate,gs];rw[Int.mul_add,Int.mul_one,Int.mul_comm (gs z m)]
theorem Cg.zero_mul(h:Cg a 0)(b:Int):Cg (a*b) 0:=by
 have:=h.mul (kan b);rwa [Int.zero_mul]at this
theorem Cg.mul_zero(h:Cg a 0)(b:Int):Cg (b*a) 0:=by
 rw[Int.mul_comm];exact h.zero_mul b
theorem jqN{z:Int}{t:Nat}(ht:Cg (z^2^t) (-1)):∀m,t<m->Cg (gs z m) 0
 |0,h=>by omega
 |m+1,h=>by
  by_cases e:t=m
  ·subst e;refine Cg.mul_zero ?_ _;exact(kan 1).add ht
  ·exact Cg.zero_mul (jqN ht m (by omega)) _
theorem jtT:∀(d:Nat),0<d->∃s o,d=2^s*(2*o+1):=by
 intro d
 induction d using Nat.strongRecOn with
 |_ d ih=>
  intro hd;by_cases h:d% 2=1
  ·exact⟨0,d/2,by rw[Nat.pow_zero];omega⟩
  ·obtain⟨s,o,e⟩:=ih (d/2) (by omega) (by omega);refine⟨s+1,o,?_⟩;rw[Nat.pow_succ,Nat.mul_right_comm,<-e];omega
theorem jcO.sum_zero{m:Nat}{w:Int}(h:jcO m w){d:Nat}(hd:0<d/\d<2^m):Cg (pe (ones (2^m)) (w^d)) 0:=by
 rw[jqM];obtain⟨s,o,e⟩:=jtT d hd.1;have hs:s<m:=by
  rcases Nat.lt_or_ge s m with x|x
  ·exact x
  ·have:2^m<=2^s:=Nat.pow_le_pow_right (by decide) x;have:2^s*1<=2^s*(2*o+1):=Nat.mul_le_mul_left _ (by omega);omega
 refine jqN (t:=m-1-s) ?_ m (by omega);rw[<-Int.pow_mul,e,Nat.mul_right_comm,<-Nat.pow_add,show s+(m-1-s)=m-1 by omega,Int.pow_mul];have hr:Cg (w^2^(m-1)) (-1):=by
  have:=h (m-1) (by omega);unfold Cg;rw[this];decide
 have:=hr.pow (2*o+1)
 rwa [jdb]at this
theorem jm7(n:Nat):pe (ones n) 1=n:=by
 induction n with
 |zero=>rfl
 |succ n ih=>
  have:ones (n+1)=1::ones n:=rfl;rw[this,pe,ih];omega
def dsum(w:Int)(n:Nat)(l:List Int)(y:Int):Int:=pe ((List.range n).map fun k=>pe l (w^k)) y
theorem jgJ(f g:Nat->Int)(y:Int):∀ks:List Nat,pe (ks.map fun k=>f k+g k) y=pe (ks.map f) y+pe (ks.map g) y
 |[]=>rfl
 |k::ks=>by simp only[List.map_cons,pe,jgJ f g y ks,Int.mul_add];omega
theorem jhu(c y:Int):∀l:List Int,pe (l.map fun x=>c*x) y=c*pe l y
 |[]=>by simp[pe]
 |x::l=>by simp only[List.map_cons,pe,jhu c y l,Int.mul_add];rw[Int.mul_left_comm]
theorem jn5(f:Nat->Int)(w y:Int):∀(n s:Nat),pe ((List.range' s n).map fun k=>w^k*f k) y=w^s*pe ((List.range' s n).map f) (w*y)
 |0,s=>by simp[pe]
 |n+1,s=>by
  rw[List.range'_succ];simp only[List.map_cons,pe,jn5 f w y n (s+1),Int.pow_succ,Int.mul_add];congr 1;simp only[Int.mul_assoc,Int.mul_left_comm,Int.mul_comm]
theorem jqO(w:Int)(n:Nat)(x:Int)(l:List Int)(y:Int):dsum w n (x::l) y=x*pe (ones n) y+dsum w n l (w*y):=by
 unfold dsum;simp only[pe];rw[jgJ];have e1:(List.range n).map (fun _=>x)=(ones n).map fun o=>x*o:=by
  simp[ones,List.map_const']
 rw[e1,jhu];congr 1;have:=jn5 (fun k=>pe l (w^k)) w y n 0;rw[<-List.range_eq_range']at this;rw[this,Int.pow_zero,Int.one_mul]
theorem jlO{m:Nat}{w v:Int}(hw:jcO m w)(hv:jcO m v)(hwv:1<=m->Cg (w*v) 1){i:Nat}(hi:i<2^m):∀(l:List Int) (j:Nat),j+l.length<=2^m->
  Cg (dsum w (2^m) l (w^j*v^i)) (((2^m:Nat):Int)*(if j<=i then l.getD (i-j) 0 else 0))
 |[],j,_=>by
  unfold dsum;have e:(List.range (2^m)).map (fun k=>pe [] (w^k))=(ones (2^m)).map fun o=>0*o:=by simp[ones,pe,List.map_const']
  rw[e,jhu];simp;exact kan _
 | x :: l, j, hj => by
  have ih:=jlO hw hv hwv hi l (j+1) (by simp only[List.length_cons]at hj;omega);simp only[List.length_cons]at hj;have hpow:∀c,1<=m->Cg (w^c*v^c) 1:=fun c hm=>by
   rw[<-Int.mul_pow];have:=(hwv hm).pow c
   rwa [Int.one_pow]at this
  have hm:i≠j->1<=m:=by
   intro h;rcases Nat.eq_zero_or_pos m with e|e
   ·subst e;simp at hi hj;omega
   ·exact e
  rw[jqO,show w*(w^j*v^i)=w^(j+1)*v^i by rw[Int.pow_succ,<-Int.mul_assoc,Int.mul_comm w]];by_cases e:j=i
  ·subst e;have h1:Cg (pe (ones (2^m)) (w^j*v^j)) ((2^m:Nat):Int):=by
    rw[<-jm7];rcases Nat.eq_zero_or_pos m with e0|e0
    ·subst e0;have:j=0:=by simpa using hi
     subst this;simp;exact kan _
    ·exact(hpow j e0).pe _
   rw[if_neg (by omega),Int.mul_zero]at ih;rw[if_pos (by omega),Nat.sub_self,List.getD_cons_zero];refine((kan x).mul h1|>.add ih).trans (kaR ?_);rw[Int.add_zero,Int.mul_comm]
  ·have h0:Cg (pe (ones (2^m)) (w^j*v^i)) 0:=by
    rcases Nat.lt_or_ge j i with hlt|hge
    ·have:Cg (w^j*v^i) (v^(i-j)):=by
      rw[show v^i=v^j*v^(i-j)by rw[<-Int.pow_add];congr 1;omega,<-Int.mul_assoc];have:=(hpow j (hm (Ne.symm e))).mul (kan (v^(i-j)))
      rwa [Int.one_mul]at this
     exact(this.pe _).trans (hv.sum_zero (by omega))
    ·have:Cg (w^j*v^i) (w^(j-i)):=by
      rw[show w^j=w^(j-i)*w^i by rw[<-Int.pow_add];congr 1;omega,Int.mul_assoc];have:=(kan (w^(j-i))).mul (hpow i (hm (Ne.symm e)))
      rwa [Int.mul_one]at this
     exact(this.pe _).trans (hw.sum_zero (by omega))
   refine((h0.mul_zero x).add ih).trans (kaR ?_);rw[Int.zero_add];congr 1;by_cases hji:j+1<=i
   ·rw[if_pos hji,if_pos (by omega),show i-j=i-(j+1)+1 by omega,List.getD_cons_succ]
   ·rw[if_neg hji,if_neg (by omega)]
theorem kbg{f g:Nat->Int}(h:∀k,Cg (f k) (g k))(y:Int):∀ks:List Nat,Cg (Ae.pe (ks.map f) y) (Ae.pe (ks.map g) y)
 |[]=>kan _
 |k::ks=>(h k).add ((kan y).mul (kbg h y ks))
theorem jtU{m:Nat}{w v:Int}(hw:jcO m w)(hv:jcO m v)(hwv:1<=m->Cg (w*v) 1){l:List Int}(hl:l.length=2^m){i:Nat}(hi:i<2^m):
  Cg (pe (dft w l) (v^i)) (((2^m:Nat):Int)*l.getD i 0):=by
 have h1:Cg (pe (dft w l) (v^i)) (dsum w (2^m) l (v^i)):=by
  unfold dft dsum;rw[hl];exact kbg (fun k=>(kan _).emod) _ _
 have h2:=jlO hw hv hwv hi l 0 (by omega);rw[Int.pow_zero,Int.one_mul,if_pos (by omega),Nat.sub_zero]at h2;exact h1.trans h2
theorem jtV:∀m:Nat,m<=15->Cg (((2^m:Nat):Int)*powI ((2^m:Nat):Int) 998244351) 1:=by
 intro m hm;have h:∀m:Fin 16,pmod 30 ((2^m.val:Nat):Int) 998244352% pP=1:=by decide+kernel
 have h1:=h ⟨m,by omega⟩;rw[jm6 30 _ 998244352 (by decide)]at h1;have e:(998244351:Int).toNat=998244351:=rfl;unfold powI Cg;rw[jjs,e,Int.mul_comm,<-Int.pow_succ,h1];rfl
theorem jsk{m:Nat}(hm:m<=15):1<=m->Cg (rootI ((2^m:Nat):Int)*powI (rootI ((2^m:Nat):Int)) 998244351) 1:=by
 intro h1;have e:(998244351:Int).toNat=998244351:=rfl;unfold powI Cg;rw[jjs,e,Int.mul_comm,<-Int.pow_succ];have hr:=jis hm (m-1) (by omega);have hc:Cg (rootI ((2^m:Nat):Int)^2^(m-1)) (-1):=by unfold Cg;rw[hr];decide
 have hd:∃q,998244352=2^(m-1)*(2*q):=by
  refine⟨998244352/2^m,?_⟩;have:∀m:Fin 16,1<=m.val->998244352=2^(m.val-1)*(2*(998244352/2^m.val)):=by decide+kernel
  exact this ⟨m,by omega⟩ h1
 obtain⟨q,hq⟩:=hd;have e2:Nat.succ 998244351=2^(m-1)*(2*q):=hq;rw[e2,Int.pow_mul];have h2:=hc.pow (2*q);have e3:(-1:Int)^(2*q)=1:=by rw[Int.pow_mul,show(-1:Int)^2=1 from rfl,Int.one_pow]
 rw[e3]at h2;exact h2
theorem jkz{m:List Int}(hl:l.length=m.length)(h:∀i,i<l.length->l.getD i 0=m.getD i 0):l=m:=by
 refine List.ext_getElem hl fun i h1 h2=>?_;have:=h i h1;simpa[h1,h2]using this
theorem jtW(hl:isLen l.length=true)(hr:∀x∈l,0<=x/\x<998244353):invI (dft (rootI l.length) l)=l:=by
 obtain⟨m,hm,he⟩:=jir hl;refine jkz (by rw[jfv,jaY]) fun i hi=>?_;rw[jfv,jaY]at hi;have hb:=hr _ (jam hi);have key:=jtU (jis hm) (jis hm).inv (jsk hm) he (i:=i) (by omega);have e:(invI (dft (rootI l.length) l)).getD i 0=pe (dft (rootI l.length) l) (powI (rootI l.length) 998244351^i)% pP*powI l.length 998244351% pP:=by
  unfold invI;rw[jaY];have h2:i<(dft (powI (rootI l.length) 998244351) (dft (rootI l.length) l)).length:=by rw[jaY,jaY];exact hi
  rw[List.getD_eq_getElem?_getD,List.getElem?_map,List.getElem?_eq_getElem h2];have h3:=jdu (w:=powI (rootI l.length) 998244351) (l:=dft (rootI l.length) l) (k:=i) (by rw[jaY];exact hi);rw[List.getD_eq_getElem?_getD,List.getElem?_eq_getElem h2]at h3;simp only[Option.getD_some]at h3;simp[h3]
 rw[e,he];have h4:=key.emod.mul (kan (powI ((2^m:Nat):Int) 998244351));have h5:Cg (((2^m:Nat):Int)*l.getD i 0*powI ((2^m:Nat):Int) 998244351) (l.getD i 0):=by
  rw[Int.mul_right_comm];have:=(jtV m hm).mul (kan (l.getD i 0))
  rwa [Int.one_mul]at this
 have h6:=h4.trans h5;unfold Cg at h6;rw[h6];exact Int.emod_eq_of_lt hb.1 hb.2
def row(c:Int)(b:List Int)(i k:Nat):Int:=if i<=k/\k-i<b.length then c*b.getD (k-i) 0 else 0
def cfs(a b:List Int):Nat->Nat->Int
 |0,_=>0
 |i+1,k=>cfs a b i k+row (a.getD i 0) b i k
def convL(a b:List Int):List Int:=(List.range (a.length+b.length-1)).map (cfs a b a.length)
theorem jcL(a b:List Int):(convL a b).length=a.length+b.length-1:=by simp[convL]
theorem jhv(n:Nat)(z:Int):pe (List.replicate n 0) z=0:=by
 induction n with
 |zero=>rfl
 |succ n ih=>rw[List.replicate_succ,pe,ih,Int.mul_zero,Int.add_zero]
theorem jsl(c:Int)(b:List Int)(i N:Nat)(h:i+b.length<=N):(List.range N).map (row c b i)=List.replicate i 0++b.map (fun x=>c*x)++List.replicate (N-i-b.length) 0:=by
 refine List.ext_getElem (by simp;omega) fun k h1 h2=>?_;simp only[List.length_map,List.length_range]at h1;simp only[List.getElem_map,List.getElem_range,row,List.getElem_append,List.length_append,List.length_replicate,List.length_map,List.getElem_replicate];by_cases h3:k<i
 ·rw[if_neg (by omega),dif_pos (by omega),dif_pos h3]
 ·by_cases h4:k<i+b.length
  ·rw[if_pos (by omega),dif_pos h4,dif_neg h3];have h5:k-i<b.length:=by omega
   simp[h5]
  ·rw[if_neg (by omega),dif_neg h4]
theorem juz(c:Int)(b:List Int)(i N:Nat)(h:i+b.length<=N)(z:Int):pe ((List.range N).map (row c b i)) z=c*z^i*pe b z:=by
 rw[jsl c b i N h,jeC,jeC,jhv,jhv,jhu];simp only[List.length_replicate,Int.mul_zero,Int.add_zero,Int.zero_add];rw[<-Int.mul_assoc,Int.mul_comm c]
theorem jtl(a b:List Int)(z:Int)(N:Nat)(hN:a.length+b.length<=N+1)(hb:1<=b.length):∀i,i<=a.length->pe ((List.range N).map (cfs a b i)) z=pe (a.take i) z*pe b z
 | 0, _ => by
  have:(List.range N).map (cfs a b 0)=List.replicate N 0:=by
   have:cfs a b 0=fun _=>0:=rfl;rw[this,List.map_const',List.length_range]
  rw[this,jhv,List.take_zero,pe,Int.zero_mul]
 |i+1,hi=>by
  have ih:=jtl a b z N hN hb i (by omega);have e:cfs a b (i+1)=fun k=>cfs a b i k+row (a.getD i 0) b i k:=rfl;rw[e,jgJ,ih,juz _ _ _ _ (by omega),jlx (by omega),Int.add_mul]
theorem jtX(a b:List Int)(hb:1<=b.length)(z:Int):pe (convL a b) z=pe a z*pe b z:=by
 unfold convL;rw[jtl a b z _ (by omega) hb a.length (Nat.le_refl _),List.take_length]
theorem jtY(c:Int)(b:List Int)(i k:Nat):absI (row c b i k)<=absI c*maxAbs b:=by
 unfold row;split
 ·rename_i h;rw[jei];exact Int.mul_le_mul_of_nonneg_left (jip (jam h.2)) (jaN c)
 ·have:=Int.mul_nonneg (jaN c) (jcj b);simp[absI];exact this
theorem jqP(a b:List Int)(k:Nat):∀i,i<=a.length->absI (cfs a b i k)<=sumAbs (a.take i)*maxAbs b
 |0,_=>by simp[cfs,absI,sumAbs]
 |i+1,hi=>by
  have ih:=jqP a b k i (by omega);have h1:=jtY (a.getD i 0) b i k;have h2:=jn4 (cfs a b i k) (row (a.getD i 0) b i k);rw[jfu (by omega),Int.add_mul];simp only[cfs];omega
theorem jpd(hC:Has C TA){va vb:AV}{a b:List Int}(ha:RI h va a)(hb:RI h vb b)(sa:small a)(sb:small b)(hla:a.length<=65536):ACalls C 38 [va,vb] h (fun r h'=>r=.bool (decide (499122176<sumAbs a*maxAbs b))/\h'=h):=by
 have l1:=ha.lt;have l2:=hb.lt;have s1:=jg5 sa;have s2:=jci a;have s3:=jg6 sb;have s4:=jcj b;have p1:0<=sumAbs a*maxAbs b:=Int.mul_nonneg s2 s4;have p2:sumAbs a*maxAbs b<=65536000000*1000000:=Int.mul_le_mul (by omega) s3 s4 (by omega);refine zf 38 B38 hC ?_;simp only[B38,zB];refine zs1 @ha.len ?_;refine jae (fun j t h'=>h'=h/\t 1=vb/\t 6=.int .i64 0/\t 11=va/\t 12=.int .i64 a.length/\∃i:Nat,t 5=.int .i64 (sumAbs (a.take i))/\t 13=.int .i64 (i:Nat)/\i<=a.length/\j=a.length-i) ⟨rfl,rfl,rfl,rfl,rfl,0,rfl,rfl,by omega,rfl⟩ ?_
 rintro j t h' ⟨rfl,e1,e6,e11,e12,i,e5,e13,hi,hj⟩;refine zs4 e1 e6 e12 e13 ?_;refine kaf (fun c=>?_) (fun c=>?_)
 ·have hi':i<a.length:=by omega
  have q1:=jf4 sa hi';have q2:=sa _ (jam hi');have q3:=jci (a.take i);have q4:=je8 a i;have q5:max (a.getD i 0) (0-a.getD i 0)=absI (a.getD i 0):=by unfold absI;omega
  have q6:=jaN (a.getD i 0);refine zs7 e1 e5 e6 e11 e12 e13 (zI @ha.idx (zI @ha.load q5)) ?_;exact⟨_,⟨i+1,by rw[jfu hi'],by simp,by omega,rfl⟩,by omega⟩
 ·have:i=a.length:=by omega
  subst this;rw[List.take_length]at e5;refine zs2 e1 @hb.len ?_;refine jae (fun j t h2=>h2=h'/\t 5=.int .i64 (sumAbs a)/\t 24=vb/\t 25=.int .i64 b.length/\∃i:Nat,t 6=.int .i64 (maxAbs (b.take i))/\t 26=.int .i64 (i:Nat)/\i<=b.length/\j=b.length-i) (j0:=b.length) ⟨rfl,e5,rfl,rfl,0,e6,rfl,by omega,rfl⟩ ?_;rintro j t h2 ⟨rfl,e5,e24,e25,i,e6,e26,hi,hj⟩;refine zs3 e24 e25 e26 ?_;refine kaf (fun c=>?_) (fun c=>?_)
  ·have hi':i<b.length:=by omega
   have q1:=jf4 sb hi';have q2:=sb _ (jam hi');have q5:max (max (maxAbs (b.take i)) (b.getD i 0)) (0-b.getD i 0)=max (maxAbs (b.take i)) (absI (b.getD i 0)):=by unfold absI;omega
   refine zs7 e5 e6 e24 e25 e26 @hb.idx (zI @hb.load q5) ?_;exact⟨_,⟨i+1,by rw[jmZ hi'],by simp,by omega,rfl⟩,by omega⟩
  ·have:i=b.length:=by omega
   subst this;rw[List.take_length]at e6;exact ze2 e5 e6
def circ10Err(a b:List Int):Int:=if jbI a b=0 then(if 499122176<sumAbs a*maxAbs b then 5 else 0)else jbI a b
def resid(l:List Int):List Int:=l.map fun x=>x% pP
def padR(l:List Int)(n:Nat):List Int:=resid l++List.replicate (n-l.length) 0
theorem jb1{n:Nat}(h:l.length<=n):(padR l n).length=n:=by simp[padR,resid];omega
theorem jgK{n:Nat}:∀x∈padR l n,0<=x/\x<998244353:=by
 intro x hx;rcases List.mem_append.1 hx with h|h
 ·obtain⟨y,_,rfl⟩:=List.mem_map.1 h;exact⟨Int.emod_nonneg _ (by decide),Int.emod_lt_of_pos _ (by decide)⟩
 ·rw[(List.mem_replicate.1 h).2];exact⟨by decide,by decide⟩
theorem jn6:∀(l:List Int) (z:Int),Cg (pe (resid l) z) (pe l z)
 |[],z=>kan _
 |x::l,z=>(kan x).emod.add ((kan z).mul (jn6 l z))
theorem jm8(l:List Int)(n:Nat)(z:Int):Cg (pe (padR l n) z) (pe l z):=by
 unfold padR;rw[jeC,jhv,Int.mul_zero,Int.add_zero];exact jn6 l z
def jep(a b:List Int):List Int:=(List.range a.length).map fun i=>a.getD i 0*b.getD i 0% pP
theorem jtZ{a b:List Int}{n:Nat}{w:Int}(hb:1<=b.length)(ha:1<=a.length)(hn:a.length+b.length-1<=n):jep (dft w (padR a n)) (dft w (padR b n))=dft w (padR (convL a b) n):=by
 have hc:=jcL a b;have la:=jb1 (l:=a) (n:=n) (by omega);have lb:=jb1 (l:=b) (n:=n) (by omega);have lc:=jb1 (l:=convL a b) (n:=n) (by omega);refine jkz (by simp[jep,jaY,la,lc]) fun i hi=>?_;simp only[jep,List.length_map,List.length_range,jaY,la]at hi;unfold jep;rw[jcK (by rw[jaY,la];exact hi),jdu (by omega),jdu (by omega),jdu (by omega)];have h1:=(jm8 a n (w^i)).emod.mul (jm8 b n (w^i)).emod;have h2:=jm8 (convL a b) n (w^i);rw[jtX a b hb]at h2;exact h1.trans h2.symm
theorem jqQ{x:Int}(h: -499122176<=x/\x<=499122176):sgn (x% pP)=x:=by
 show sgn (x% 998244353)=x;unfold sgn;rcases Int.lt_or_le x 0 with hx|hx
 ·have:x% (998244353:Int)=x+998244353:=by
   rw[<-Int.add_emod_right];exact Int.emod_eq_of_lt (by omega) (by omega)
  rw[this,if_pos (by omega)];omega
 ·have:x% (998244353:Int)=x:=Int.emod_eq_of_lt hx (by omega);rw[this,if_neg (by omega)]
theorem jsm{k:Nat}(hk:k<=15):isLen ((2^k:Nat):Int)=true:=by
 have h:∀k:Fin 16,isLen ((2^k.val:Nat):Int)=true:=by decide+kernel
 exact h ⟨k,by omega⟩
theorem jjA{a b:List Int}(hw:sumAbs a*maxAbs b<=499122176):∀x∈convL a b,-499122176<=x/\x<=499122176:=by
 intro x hx;obtain⟨n,_,rfl⟩:=List.mem_map.1 hx;have h1:=jqP a b n a.length (Nat.le_refl _);rw[List.take_length]at h1;have:=jm0 (Int.le_trans h1 hw);exact this
theorem jsn{a b:List Int}{n:Nat}(hw:sumAbs a*maxAbs b<=499122176)(hn:a.length+b.length-1<=n):((padR (convL a b) n).map sgn).take (a.length+b.length-1)=convL a b:=by
 have hc:=jcL a b;have hb:=jjA hw;unfold padR resid;rw[List.map_append,List.take_append_of_le_length (by simp[hc]),List.take_of_length_le (by simp[hc]),List.map_map];refine(List.map_congr_left fun x hx=>?_).trans (List.map_id _);exact jqQ (hb x hx)
theorem jlP(hC:Has C TA){x:Int}(hx:In64 x):ACalls C 52 [.int .i64 x] h (fun r h'=>r=.int .i64 (x% pP)/\h'=h):=by
 unfold In64 at hx;have h1:x.tmod 998244353<998244353:=Int.tmod_lt_of_pos x (by omega);have h2: -998244353<x.tmod 998244353:=by have:=Int.lt_tmod_of_pos x (b:=998244353) (by omega);omega
 rw[jg2 (by decide)];simp only[pP];refine zf 52 B52 hC ?_;simp only[B52,zB];refine zs ?_;refine kaf (fun c=>?_) (fun c=>?_)
 ·simp-implicitDefEqProofs (disch:=first|exact zd|fail) only[↓wpPre,jbx,jby,Int.reduceToNat,Int.reducePow,Int.reduceMul,Int.reduceAdd,Int.reduceSub,Int.reduceNeg,Nat.reduceAdd,Nat.reduceMul,Nat.reducePow,Int.reduceLT,Int.reduceLE,Int.reduceEq,Nat.reduceEqDiff,if_pos c]
 ·simp-implicitDefEqProofs (disch:=first|exact zd|fail) only[↓wpPre,jbx,jby,Int.reduceToNat,Int.reducePow,Int.reduceMul,Int.reduceAdd,Int.reduceSub,Int.reduceNeg,Nat.reduceAdd,Nat.reduceMul,Nat.reducePow,Int.reduceLT,Int.reduceLE,Int.reduceEq,Nat.reduceEqDiff,if_neg c]
theorem jso(hC:Has C TA){x y:Int}(hx:0<=x/\x<998244353)(hy:0<=y/\y<998244353):ACalls C 54 [.int .i64 x,.int .i64 y] h (fun r h'=>r=.int .i64 (x*y% pP)/\h'=h):=by
 have m1:0<=x*y:=Int.mul_nonneg hx.1 hy.1;have m2:x*y<=998244353*998244353:=Int.mul_le_mul (by omega) (by omega) (by omega) (by omega);refine zf 54 B54 hC ?_;simp only[B54,zB];exact ze
theorem jlQ(hC:Has C TA)(hC':Has C TA){va vb:AV}{a b:List Int}{h:Heap}(ha:RI h va a)(hb:RI h vb b)(hl:a.length=b.length/\a.length<=65536)(ra:∀x∈a,0<=x/\x<998244353)(rb:∀x∈b,0<=x/\x<998244353):
  ACalls C 53 [va,vb,.func 54 [] []] h (fun r h'=>Fresh h h' r (jep a b)):=by
 have zl:(jep a b).length=a.length:=by simp[jep]
 refine zf 53 B53 hC ?_;simp only[B53,zB];refine zs2 @ha.len @ja0 ?_;refine jae (fun j t h'=>∃i:Nat,h'=h.push (.cells (ints ((jep a b).take i++List.replicate (a.length-i) 0)) true 0)/\t 0=va/\t 1=vb/\t 2=.func 54 [] []/\t 7=.slice h.size 0 a.length (.known a.length)/\t 13=.int .i64 a.length/\t 14=.int .i64 (i:Nat)/\i<=a.length/\j=a.length-i) (j0:=a.length)
  ⟨0,by simp,rfl,rfl,rfl,rfl,rfl,rfl,by omega,rfl⟩ ?_
 rintro j t h2 ⟨i,rfl,e0,e1,e2,e7,e13,e14,hi,hj⟩;refine zs2 e13 e14 ?_;refine kaf (fun c=>?_) (fun c=>?_)
 ·have hi':i<a.length:=by omega
  refine zs7 e0 e1 e2 e7 e14 @ha.idx (zI @hb.idx (zI @ha.loadC @hb.loadC)) ?_;refine kaa (jso hC' (ra _ (jam hi')) (rb _ (jam (by omega)))) ?_;have hll:((jep a b).take i++List.replicate (a.length-i) 0).length=a.length:=by simp[zl];omega
  refine zs6 e0 e1 e2 e7 e13 e14 ?_;refine⟨_,⟨i+1,?_,by simp,by omega,rfl⟩,by omega⟩;have hz:(jep a b).getD i 0=a.getD i 0*b.getD i 0% pP:=by unfold jep;rw[jcK hi']
  have hlt:((jep a b).take i).length=i:=by simp[zl];omega
  rw[List.set_append_right _ _ (by omega),hlt,Nat.sub_self,jap (by omega),hz,show a.length-i=a.length-(i+1)+1 by omega,List.replicate_succ,List.set_cons_zero,List.append_assoc];rfl
 ·have:i=a.length:=by omega
  subst this;refine zs1 e7 ?_;refine⟨kac _ _,by omega,h.size,Nat.le_refl _,by rw[zl],?_⟩;rw[get_push_eq rfl,Nat.sub_self,<-zl,List.take_length];simp
theorem jqR{i o n:Nat}{c:Cap}{lo hi mx:Option AV}{v:AV}(e:jaO h sz (.slice i o n c) lo hi mx=some v):∀j∈v.ids,j=i:=by
 cases c with
 |known c=>
  simp only[jaO]at e;split at e
  ·cases e;simp[AV.ids]
  ·cases e
 | unk k =>
  simp only[jaO]at e;split at e
  ·split at e
   ·split at e
    ·split at e
     ·cases e;simp[AV.ids]
     ·split at e
      ·cases e;simp[AV.ids]
      ·cases e
    ·cases e
   ·cases e
  ·cases e
theorem jlR(hC:Has C TA){v:AV}{l:List Int}{n nb:Nat}{h:Heap}(hl:RI h v l)(hx:∀x∈l,In64 x)(hb:h.get nb=some (.cells [.int .i64 (n:Nat)] true 0))(hn:isLen n=true)(hln:l.length<=n):
  ACalls C 51 [v,.ptr nb 0] h (fun r h'=>Fresh h h' r (dft (rootI n) (padR l n))):=by
 have hlt:=hl.lt;have q:=jel hn;have hnb:=kab hb;have rl:(resid l).length=l.length:=by simp[resid]
 refine zf 51 B51 hC ?_;simp only[B51,zB];refine zs3 @hb @hl.len @ja0 ?_;refine jae (fun j t h'=>∃i:Nat,h'=h.push (.cells (ints ((resid l).take i++List.replicate (n-i) 0)) true 0)/\t 4=.slice h.size 0 n (.known n)/\t 9=v/\t 10=.int .i64 l.length/\t 11=.int .i64 (i:Nat)/\i<=l.length/\j=l.length-i) (j0:=l.length)
  ⟨0,by simp,rfl,rfl,rfl,rfl,by omega,rfl⟩ ?_
 rintro j t h2 ⟨i,rfl,e4,e9,e10,e11,hi,hj⟩;refine zs2 e10 e11 ?_;refine kaf (fun c=>?_) (fun c=>?_)
 ·have hi':i<l.length:=by omega
  refine zs5 e4 e9 e11 @hl.idx @hl.loadC ?_;refine kaa (jlP hC (hx _ (jam hi'))) ?_;have hll:((resid l).take i++List.replicate (n-i) 0).length=n:=by simp[rl];omega
  refine zs4 e4 e9 e10 e11 ?_;refine⟨_,⟨i+1,?_,by simp,by omega,rfl⟩,by omega⟩;have hz:(resid l).getD i 0=l.getD i 0% pP:=by simp[resid,hi']
  have hlt:((resid l).take i).length=i:=by simp[rl];omega
  rw[List.set_append_right _ _ (by omega),hlt,Nat.sub_self,jap (by omega),hz,show n-i=n-(i+1)+1 by omega,List.replicate_succ,List.set_cons_zero,List.append_assoc];rfl
 ·have:i=l.length:=by omega
  subst this;have e:(resid l).take l.length++List.replicate (n-l.length) 0=padR l n:=by
   rw[<-rl,List.take_length,rl];rfl
  rw[e];have pl:=jb1 hln;refine zs1 e4 ?_;refine kad (jlN hC (l:=padR l n) (kah (get_push_eq rfl) ⟨by rw[pl],by omega⟩ (by omega)) (by rw[pl];exact hn) jgK) ?_;rintro r h' F;refine zs ?_;rw[pl]at F;exact F.mono (kac _ _)
theorem jlS(hC:Has C TA){va vb:AV}{a b:List Int}{h:Heap}(ha:RI h va a)(hb:RI h vb b)(sa:small a)(sb:small b)(hl:1<=a.length/\1<=b.length/\a.length+b.length-1<=32768)(hw:sumAbs a*maxAbs b<=499122176):
  ACalls C 39 [va,vb] h (fun r h'=>HSub h h'/\RI h' r (convL a b)/\∀j∈r.ids,h.size<=j):=by
 have cl:=jcL a b;refine zf 39 B39 hC ?_;simp only[B39,zB];refine zs ?_;refine jae (fun j t h'=>∃k:Nat,h'=h.push (.cells [.int .i64 ((2^k:Nat):Int)] true 0)/\t 0=va/\t 1=vb/\t 5=.ptr h.size 0/\k<=15/\j=15-k) (j0:=15) ⟨0,rfl,rfl,rfl,rfl,by omega,rfl⟩ ?_;rintro j t h2 ⟨k,rfl,e0,e1,e5,hk,hj⟩;have h2k:(2:Nat)^k<=2^15:=Nat.pow_le_pow_right (by decide) hk;have h2k':(2:Nat)^k<=32768:=h2k;have hn:=jsm hk;have hnn1:(2:Nat)^(k+1)=2^k*2:=Nat.pow_succ _ _;have hn15:k=15->(2:Nat)^k=32768:=by rintro rfl;decide
 clear h2k;generalize hnn:(2:Nat)^k=n at*;refine zs5 e0 e1 e5 @ha.len @hb.len ?_;refine kaf (fun c=>?_) (fun c=>?_)
 ·refine zs3 e0 e1 e5 ?_;have hk15:k<15:=by
   rcases Nat.lt_or_ge k 15 with x|x
   ·exact x
   ·have:=hn15 (by omega);omega
  exact⟨_,⟨k+1,by rw[hnn1];simp,by omega,rfl⟩,by omega⟩
 ·refine zs3 e0 e1 e5 ?_;refine kad (jlR hC (n:=n) (ha.mono (kac _ _)) (fun x hx=>by have:=sa x hx;unfold In64;omega) (get_push_eq rfl) hn (by omega)) ?_;rintro r1 h3 F1;have s1:=F1.sub;have s1z:=s1.size;simp only[Heap.size_push]at s1z;have g1:=s1.get;refine zs2 e1 g1 ?_;refine kad (jlR hC (n:=n) (hb.mono ((kac _ _).trans s1)) (fun x hx=>by have:=sb x hx;unfold In64;omega) (by rw[g1 _ (by simp)];exact get_push_eq rfl) hn (by omega)) ?_;rintro r2 h4 F2;have s2:=F2.sub;refine zs ?_;have pla:=jb1 (l:=a) (n:=n) (by omega);have plb:=jb1 (l:=b) (n:=n) (by omega)
  refine kad (jlQ hC hC (F1.ri.mono s2) F2.ri (by rw[jaY,jaY,pla,plb];omega) jdI jdI) ?_;rintro r3 h5 F3;have s3:=F3.sub;rw[jtZ (by omega) (by omega) (by omega)]at F3;have plc:=jb1 (l:=convL a b) (n:=n) (by omega);refine zs ?_;refine kad (jqL hC F3.ri (by rw[jaY,plc];exact hn) jdI) ?_;rintro r4 h6 F4;have einv:=jtW (l:=padR (convL a b) n) (by rw[plc];exact hn) jgK;rw[plc]at einv;rw[einv]at F4;obtain⟨s4,_,i0,hi0,rfl,hg4⟩:=F4;have hi1:=kab hg4;rw[plc];refine zs ?_;have hsn:=jsn (n:=n) hw (by omega);have hrange:=jgK (l:=convL a b) (n:=n);generalize padR (convL a b) n=d at plc hg4 hsn hrange
  have s5:HSub h h6:=((((kac h _).trans s1).trans s2).trans s3).trans s4;have z5:h.size<=i0:=by have:=(((kac h (.cells [.int .i64 (n:Nat)] true 0)).trans s1).trans s2).trans s3|>.size;omega
  clear s4 F3 F1 F2;refine jae (fun j t h'=>∃i:Nat,HSub h h'/\i0<h'.size/\h'.get i0=some (.cells (ints (jb6 sgn d i)) true 0)/\t 0=va/\t 1=vb/\t 7=.slice i0 0 n (.known n)/\t 29=.slice i0 0 n (.known n)/\t 30=.int .i64 (n:Nat)/\t 31=.int .i64 (i:Nat)/\i<=n/\j=n-i) (j0:=n)
   ⟨0,s5,hi1,by rw[jc8,hg4],e0,e1,rfl,rfl,rfl,rfl,by omega,rfl⟩ ?_
  rintro j t h7 ⟨i,s7,hi7,hg7,e0,e1,e7,e29,e30,e31,hi,hj⟩;have hml:=jcf sgn d i;refine zs2 e30 e31 ?_;refine kaf (fun c2=>?_) (fun c2=>?_)
  ·have hi':i<d.length:=by omega
   have hg2:=jdJ sgn hi';have g1:=hrange _ (jam hi');refine zs5 e7 e29 e31 hg7 hg2 ?_;refine kaa (jm3 hC (by unfold In64;omega)) ?_;refine zs7 e0 e1 e7 e29 e30 e31 hg7 ?_;exact⟨_,⟨i+1,s7.put (by omega) _,hi7,by rw[<-jdK _ hi'],by simp,by omega,rfl⟩,by omega⟩
  ·have:i=n:=by omega
   subst this;rw[<-plc,jc9]at hg7;have hd:(d.map sgn).length=d.length:=by simp
   have R7:RI h7 (.slice i0 0 i (.known i)) (d.map sgn):=kah hg7 (by omega) (by omega);obtain⟨v',ev,Rv⟩:=R7.part_b (k2:=.i64) (b:=(a.length:Int)+b.length-1) (by omega);refine zs6 e0 e1 e7 @ha.len @hb.len ev ?_;have hids:=jqR (ev h7 (kag _));refine⟨s7,?_,fun j hj=>by rw[hids j hj];exact z5⟩;rw[show((a.length:Int)+b.length-1).toNat=a.length+b.length-1 by omega,hsn]at Rv;exact Rv
def fldS(c:List Int)(n m:Nat):Nat->Int
 |0=>0
 |i+1=>fldS c n m i+if(i+1)% n=m then c.getD i 0 else 0
theorem jm9{c:List Int}{n m:Nat}(hm:m<n):∀i,i<=2*n-1->fldS c n m i=(if 1<=m/\m-1<i then c.getD (m-1) 0 else 0)+(if m+n-1<i then c.getD (m+n-1) 0 else 0)
 |0,_=>by simp[fldS]
 | i + 1, hi => by
  have ih:=jm9 (c:=c) hm i (by omega);simp only[fldS,ih];have hmod:(i+1)% n=if i+1<n then i+1 else i+1-n:=by
   split
   ·exact Nat.mod_eq_of_lt (by omega)
   ·rw[Nat.mod_eq_sub_mod (by omega)];exact Nat.mod_eq_of_lt (by omega)
  rw[hmod];by_cases c1:i=m-1/\1<=m
  ·have e:i=m-1:=c1.1;rw[if_pos (show(if i+1<n then i+1 else i+1-n)=m by rw[if_pos (by omega)];omega),if_neg (by omega),if_neg (by omega),if_pos (by omega),if_neg (by omega),e];omega
  ·by_cases c2:i=m+n-1
   ·rw[if_pos (show(if i+1<n then i+1 else i+1-n)=m by rw[if_neg (by omega)];omega),if_neg (show ¬m+n-1<i by omega),if_pos (show m+n-1<i+1 by omega),<-c2];by_cases c3:1<=m
    ·rw[if_pos (by omega),if_pos (by omega)];omega
    ·rw[if_neg (by omega),if_neg (by omega)];omega
   ·have:¬(if i+1<n then i+1 else i+1-n)=m:=by split<;>omega
    rw[if_neg this,Int.add_zero];congr 1
    ·by_cases c3:1<=m/\m-1<i
     ·rw[if_pos c3,if_pos (by omega)]
     ·rw[if_neg c3,if_neg (by omega)]
    ·by_cases c3:m+n-1<i
     ·rw[if_pos c3,if_pos (by omega)]
     ·rw[if_neg c3,if_neg (by omega)]
theorem jt0{a:List Int}{i:Nat}(hi:i<a.length):a.reverse.getD i 0=a.getD (a.length-1-i) 0:=by simp[List.getElem?_reverse hi]
theorem jn7{a b:List Int}(hl:a.length=b.length){k:Nat}(hk:k<a.length):∀i,i<=a.length->
  (if 1<=k then cfs a.reverse b i (k-1)else 0)+cfs a.reverse b i (k+a.length-1)+cs a b k (a.length-i)=cs a b k a.length
 |0,_=>by simp[cfs]
 | i + 1, hi => by
  have ih:=jn7 hl hk i (by omega);rw[<-ih];have e:a.length-i=(a.length-(i+1))+1:=by omega
  rw[e];simp only[cs,cfs];rw[jt0 (by omega),show a.length-1-i=a.length-(i+1)by omega];have hmod:(a.length-(i+1)+k)% b.length=if a.length-(i+1)+k<b.length then a.length-(i+1)+k else a.length-(i+1)+k-b.length:=by
   split
   ·exact Nat.mod_eq_of_lt (by omega)
   ·rw[Nat.mod_eq_sub_mod (by omega)];exact Nat.mod_eq_of_lt (by omega)
  rw[hmod];generalize a.getD (a.length-(i+1)) 0=x;unfold row;by_cases c1:a.length-(i+1)+k<b.length
  ·rw[if_pos c1,if_pos (show i<=k+a.length-1/\k+a.length-1-i<b.length by omega),show k+a.length-1-i=a.length-(i+1)+k by omega];by_cases c2:1<=k
   ·rw[if_pos c2,if_pos c2,if_neg (by omega)];omega
   ·rw[if_neg c2,if_neg c2];omega
  ·rw[if_neg c1,if_neg (show ¬(i<=k+a.length-1/\k+a.length-1-i<b.length)by omega),if_pos (show 1<=k by omega),if_pos (show 1<=k by omega),if_pos (show i<=k-1/\k-1-i<b.length by omega),show k-1-i=a.length-(i+1)+k-b.length by omega];omega
theorem jsp{a b:List Int}(hl:a.length=b.length){m:Nat}(hm:m<a.length):fldS (convL a.reverse b) a.length m (2*a.length-1)=(circ a b).getD m 0:=by
 have hc:=jcL a.reverse b;simp only[List.length_reverse]at hc;have gc:∀t,t<2*a.length-1->(convL a.reverse b).getD t 0=cfs a.reverse b a.length t:=fun t ht=>by
  have:t<a.reverse.length+b.length-1:=by simp;omega
  unfold convL;rw[jcK this,List.length_reverse]
 rw[jm9 hm _ (Nat.le_refl _)];have h1:=jn7 hl hm a.length (Nat.le_refl _);rw[Nat.sub_self]at h1;simp only[cs,Int.add_zero]at h1;unfold circ;rw[jcK hm,<-h1];congr 1
 ·by_cases c:1<=m
  ·rw[if_pos (by omega),if_pos c,gc _ (by omega)]
  ·rw[if_neg (by omega),if_neg c]
 ·rw[if_pos (by omega),gc _ (by omega)]
theorem jna(hC:Has C TA){x:Int}:ACalls C 41 [.int .i64 x] h (fun r h'=>r=.bool (bigs x)/\h'=h):=by
 refine zf 41 B41 hC ?_;simp only[B41,zB];refine zs ?_
 (repeat' (first|(refine kaf (fun _=>?_) (fun _=>?_))|(refine zs ?_)))
 all_goals(simp[bigs];omega)
theorem jfa(a:List Int):sumAbs a.reverse=sumAbs a:=by
 induction a with
 |nil=>rfl
 |cons x a ih=>rw[List.reverse_cons,jeh,ih];simp[sumAbs];omega
theorem jsq{c:List Int}{n m i:Nat}(hm:m<n)(hi:i<=2*n-1)(hc:∀x∈c,-499122176<=x/\x<=499122176): -998244352<=fldS c n m i/\fldS c n m i<=998244352:=by
 have g:∀k,-499122176<=c.getD k 0/\c.getD k 0<=499122176:=fun k=>by
  by_cases hk:k<c.length
  ·exact hc _ (jam hk)
  ·rw[List.getD_eq_getElem?_getD,List.getElem?_eq_none (by omega)];simp
 have g1:=g (m-1);have g2:=g (m+n-1);rw[jm9 hm i hi];split<;>split<;>omega
theorem jfb(hC:Has C TA){va vb:AV}{a b:List Int}{h:Heap}(ha:RI h va a)(hb:RI h vb b):
  ACalls C 21 [va,vb] h (fun r h'=>∃v',r=jai v' (circ10Err a b)/\HSub h h'/\RI h' v' (if circ10Err a b=0 then circ a b else[])):=by
 obtain⟨c,hc⟩:∃c,c=convL a.reverse b:=⟨_,rfl⟩;have cl:c.length=a.length+b.length-1:=by rw[hc,jcL,List.length_reverse]
 have cb0:sumAbs a*maxAbs b<=499122176->∀x∈c,-499122176<=x/\x<=499122176:=fun h=>by rw[hc];exact jjA (by rw[jfa];exact h)
 have fc0:a.length=b.length->∀m,m<a.length->fldS c a.length m (a.length+b.length-1)=(circ a b).getD m 0:=fun hl m hm=>by
  have:=jsp hl hm
  rwa [show 2*a.length-1=a.length+b.length-1 by omega,<-hc]at this
 have fb0:a.length=b.length->sumAbs a*maxAbs b<=499122176->∀m i,m<a.length->i<=a.length+b.length-1-> -998244352<=fldS c a.length m i/\fldS c a.length m i<=998244352:=fun hl hw m i hm hi=>jsq hm (by omega) (cb0 hw);have asks:∀{l:List Int} {h:Heap},Asks C (.func 41 [] []) bigs l h:=fun{l h}=>⟨41,[],rfl,fun x _=>jna hC⟩;have l1:=ha.lt;have l2:=hb.lt;have fin:∀e,circ10Err a b=e->e≠0->∃v',AV.tuple [.nilslice,.int .i64 e]=jai v' (circ10Err a b)/\HSub h h/\RI h v' (if circ10Err a b=0 then circ a b else[]):=fun e h0 he=>⟨.nilslice,by rw[h0,jai],kag _,by rw[if_neg (by rw[h0];exact he)];exact kav⟩
 have pe:jbI a b=if a.length=0 then 3 else if 8192<a.length then 4 else if a.length≠b.length then 10 else if a.any bigs=true\/b.any bigs=true then 2 else 0:=rfl
 have pe2:circ10Err a b=if jbI a b=0 then(if 499122176<sumAbs a*maxAbs b then 5 else 0)else jbI a b:=rfl
 by_cases c0:a.length=0\/8192<a.length\/b.length≠a.length
 ·have hne:jbI a b≠0:=by
   rw[pe];split
   ·decide
   ·split
    ·decide
    ·rw[if_pos (by omega)];decide
  rw[if_neg hne]at pe2;have key:∀r h',(∃v',r=jai v' (jbI a b)/\HSub h h'/\RI h' v' (if jbI a b=0 then circ a b else[]))->(∃v',r=jai v' (circ10Err a b)/\HSub h h'/\RI h' v' (if circ10Err a b=0 then circ a b else[])):=by
   rw[pe2];exact fun _ _ h=>h
  by_cases d0:a.length=0
  ·refine zf 21 B21 hC ?_;simp only[B21,zB];refine zs1 @ha.len ?_;refine kad (jgI hC ha hb) ?_;rintro r h1 hp;have hp:=key _ _ hp;obtain⟨v',rfl,s,R⟩:=hp;refine zs1 @jai.eq_1 ?_;exact⟨v',rfl,s,R⟩
  by_cases d1:8192<a.length
  ·refine zf 21 B21 hC ?_;simp only[B21,zB];refine zs1 @ha.len ?_;refine kad (jgI hC ha hb) ?_;rintro r h1 hp;have hp:=key _ _ hp;obtain⟨v',rfl,s,R⟩:=hp;refine zs1 @jai.eq_1 ?_;exact⟨v',rfl,s,R⟩
  ·refine zf 21 B21 hC ?_;simp only[B21,zB];refine zs2 @ha.len @hb.len ?_;refine kad (jgI hC ha hb) ?_;rintro r h1 hp;have hp:=key _ _ hp;obtain⟨v',rfl,s,R⟩:=hp;refine zs1 @jai.eq_1 ?_;exact⟨v',rfl,s,R⟩
 rw[if_neg (by omega),if_neg (by omega),if_neg (by omega)]at pe;have hl:a.length=b.length:=by omega
 refine zf 21 B21 hC ?_;simp only[B21,zB];refine zs2 @ha.len @hb.len ?_;refine kaa (jbT hC ha asks) ?_;by_cases hA:a.any bigs=true
 ·rw[if_pos (.inl hA)]at pe;rw[pe,if_neg (by decide)]at pe2;refine zs ?_;exact fin 2 pe2 (by decide)
 refine zs ?_;refine kaa (jbT hC hb asks) ?_;by_cases hB:b.any bigs=true
 ·rw[if_pos (.inr hB)]at pe;rw[pe,if_neg (by decide)]at pe2;refine zs ?_;exact fin 2 pe2 (by decide)
 rw[if_neg (by rintro(h|h)<;>contradiction)]at pe;rw[if_pos pe]at pe2;have sa:=jht (Bool.eq_false_iff.2 hA);have sb:=jht (Bool.eq_false_iff.2 hB);refine zs ?_;refine kaa (jpd hC ha hb sa sb (by omega)) ?_;by_cases c5:499122176<sumAbs a*maxAbs b
 ·rw[if_pos c5]at pe2;refine zs ?_;exact fin 5 pe2 (by decide)
 rw[if_neg c5]at pe2;refine zs ?_;refine kad (joM hC ha (by omega)) ?_;rintro r h1 ⟨s1,i,hi,rfl,hg⟩;refine zs ?_;refine kad (jly hC hg (by omega) (by omega)) ?_;rintro r h2 rfl;have hi1:=kab hg;have s2:HSub h (h1.put i (.cells (ints a.reverse) true 1)):=s1.put hi _;have hrl:a.reverse.length=a.length:=List.length_reverse;have Rr:RI (h1.put i (.cells (ints a.reverse) true 1)) (.slice i 0 a.length (.unk 0)) a.reverse:=by
  have:=ka5 (l:=a.reverse) (i:=i) s2 hi (by omega) (get_put_eq rfl hi1);rw[hrl]at this;exact this.ri
 refine zs ?_;refine kad (jlS hC Rr (hb.mono s2) (fun x hx=>sa x (List.mem_reverse.1 hx)) sb (by omega) (by rw[jfa];omega)) ?_;rintro r h3 ⟨s3,R3,_⟩;rw[<-hc]at R3;have cb:=cb0 (by omega);have fc:=fc0 hl;have fb:=fb0 hl (by omega);have l3:=R3.lt;refine zs2 @R3.len @ja0 ?_;have hN:∀f:Nat->Int,((List.range a.length).map f).length=a.length:=fun f=>by simp
 refine jae (fun j t h'=>∃k:Nat,h'=h3.push (.cells (ints ((List.range a.length).map (fun m=>fldS c a.length m k))) true 0)/\t 6=.int .i64 a.length/\t 10=.slice h3.size 0 a.length (.known a.length)/\t 52=r/\t 53=.int .i64 c.length/\t 54=.int .i64 (k:Nat)/\k<=c.length/\j=c.length-k) (j0:=c.length)
  ⟨0,?_,rfl,rfl,rfl,rfl,rfl,by omega,rfl⟩ ?_
 ·have e:(List.range a.length).map (fun m=>fldS c a.length m 0)=List.replicate a.length 0:=by
   have:(fun m=>fldS c a.length m 0)=fun _=>0:=by funext n;simp[fldS]
   rw[this,List.map_const',List.length_range]
  rw[e]
 rintro j t h4 ⟨k,rfl,e6,e10,e52,e53,e54,hk,hj⟩;refine zs2 e53 e54 ?_;refine kaf (fun c1=>?_) (fun c1=>?_)
 ·have hk':k<c.length:=by omega
  have hm:(k+1)% a.length<a.length:=Nat.mod_lt _ (by omega);have f1:=fb ((k+1)% a.length) k hm (by omega);have f2:=cb _ (jam hk');have e3:((k:Int)+1)% a.length=(((k+1)% a.length:Nat):Int):=by
   rw[show(k:Int)+1=((k+1:Nat):Int)by omega];exact(Int.natCast_emod _ _).symm
  have hNk:=hN (fun m=>fldS c a.length m k);have g:((List.range a.length).map (fun m=>fldS c a.length m k)).getD ((k+1)% a.length) 0=fldS c a.length ((k+1)% a.length) k:=by rw[jcK hm]
  have st:((List.range a.length).map (fun m=>fldS c a.length m k)).set ((k+1)% a.length) (fldS c a.length ((k+1)% a.length) k+c.getD k 0)=(List.range a.length).map (fun m=>fldS c a.length m (k+1)):=
   jlK (by simp[fldS]) (fun n hn=>by simp[fldS,Ne.symm hn])
  generalize (k+1)% a.length=q at hm f1 e3 g st;refine zs7 e6 e10 e52 e53 e54 @R3.idx (zI @R3.loadC (zI e3 (zI g st))) ?_;exact⟨_,⟨k+1,rfl,by simp,by omega,rfl⟩,by omega⟩
 ·have:k=c.length:=by omega
  subst this;refine zs1 e10 ?_;have e:(List.range a.length).map (fun m=>fldS c a.length m c.length)=circ a b:=by
   refine jkz (by simp[circ]) fun m hm=>?_;simp only[List.length_map,List.length_range]at hm;rw[jcK hm,cl,fc m hm]
  rw[e];have ccl:=jej a b;exact⟨.slice h3.size 0 a.length (.known a.length),by simp only[pe2,jai],(s2.trans s3).push _,by rw[if_pos pe2];exact kah (get_push_eq rfl) ⟨by rw[ccl],by omega⟩ (by omega)⟩
def sg(f:Nat->Int):Nat->Int
 |0=>0
 |n+1=>sg f n+f n
theorem jn8{f g:Nat->Int}:∀{n:Nat},(∀j,j<n->f j=g j)->sg f n=sg g n
 |0,_=>rfl
 |n+1,h=>by rw[sg,sg,jn8 (fun j hj=>h j (by omega)),h n (by omega)]
theorem jn9{a b:List Int}{k:Nat}(h:k<a.length):(circ a b).getD k 0=cs a b k a.length:=jcK h
theorem jgL(g:Nat->Int){k n:Nat}(h:k<n):((List.range n).map g).getD k 0=g k:=by simp[List.getD_eq_getElem?_getD,h]
def padC(c:List Int)(n:Nat):List Int:=c++List.replicate (n-c.length) 0
def sI(s:List (Int×Int))(a:Int)(n:Nat):List Int:=(List.range n).map fun k=>(atP s (a+(k:Nat))).1
def sQ(s:List (Int×Int))(a:Int)(n:Nat):List Int:=(List.range n).map fun k=>(atP s (a+(k:Nat))).2
theorem jit{c:List Int}{n:Nat}(h:c.length<=n):(padC c n).length=n:=by simp[padC];omega
theorem jt1{c:List Int}{n i:Nat}(h:i<c.length):(padC c n).getD i 0=c.getD i 0:=by
 simp[padC,List.getD_eq_getElem?_getD,List.getElem?_append_left h]
theorem jsr{c:List Int}{n i:Nat}(h:c.length<=i):(padC c n).getD i 0=0:=by
 simp only[padC,List.getD_eq_getElem?_getD,List.getElem?_append_right h,List.getElem?_replicate];split<;>rfl
theorem jqS{c:List Int}{n m k:Nat}{g:Nat->Int}(hn:n+1=c.length+m)(hk:k<m):∀i,i<=n->cs (padC c n) ((List.range n).map g) k i=sg (fun j=>c.getD j 0*g (j+k)) (min i c.length)
 |0,_=>by simp[cs,sg]
 |i+1,hi=>by
  rw[cs,jqS hn hk i (by omega)];by_cases h:i<c.length
  ·rw[jt1 h,List.length_map,List.length_range,Nat.mod_eq_of_lt (by omega),jgL g (by omega),show min (i+1) c.length=i+1 by omega,show min i c.length=i by omega,sg]
  ·rw[jsr (by omega),Int.zero_mul,Int.add_zero,show min (i+1) c.length=c.length by omega,show min i c.length=c.length by omega]
theorem jqT{s:List (Int×Int)}{c:List Int}{a:Int}:∀k:Nat,sumK s c a k=(sg (fun j=>c.getD j 0*(atP s (a+(j:Nat))).1) k,sg (fun j=>c.getD j 0*(atP s (a+(j:Nat))).2) k)
 |0=>rfl
 |k+1=>by
  rw[sumK,jqT k,sg,sg];unfold addP mulP;refine Prod.ext ?_ ?_<;>(dsimp only;rw[Int.mul_comm])
theorem jss{s:List (Int×Int)}{c:List Int}{a:Int}{n m k:Nat}(h1:1<=c.length)(hn:n+1=c.length+m)(hk:k<m):
  ((circ (padC c n) (sI s a n)).getD k 0,(circ (padC c n) (sQ s a n)).getD k 0)=sumP s c (a+(k:Nat)):=by
 have pl:(padC c n).length=n:=jit (by omega);have e:∀j:Nat,a+((j+k:Nat):Int)=a+(k:Nat)+(j:Nat):=fun j=>by omega
 unfold sumP;rw[jqT,jn9 (by omega),jn9 (by omega),pl];unfold sI sQ;rw[jqS hn hk n (Nat.le_refl _),jqS hn hk n (Nat.le_refl _),show min n c.length=c.length by omega];refine Prod.ext ?_ ?_<;>exact jn8 fun j _=>by rw[e]
def preZ(l:List Int)(k:Nat):List Int:=l.take k++List.replicate (l.length-k) 0
theorem jnb{k:Nat}(h:k<=l.length):(preZ l k).length=l.length:=by simp[preZ];omega
theorem jst{k:Nat}(h:k<l.length):(preZ l k).set k (l.getD k 0)=preZ l (k+1):=by
 unfold preZ;rw[List.set_append_right _ _ (by simp;omega),List.length_take,show k-min k l.length=0 by omega,show l.length-k=(l.length-(k+1))+1 by omega,List.replicate_succ,List.set_cons_zero,List.take_succ_eq_append_getElem h,List.append_assoc,List.getD_eq_getElem?_getD,List.getElem?_eq_getElem h];rfl
theorem jsu(l:List Int):preZ l l.length=l:=by simp[preZ]
theorem jsv{c:List Int}{n:Nat}(h:c.length<=n):splice (ints (List.replicate n 0)) 0 (ints c)=ints (padC c n):=by
 rw[jgD (by rw[ints_length,ints_length,List.length_replicate];omega)];simp[padC,ints]
theorem jfc(hC:Has C TA){v w:AV}{s:List (Int×Int)}{c:List Int}{a:Int}{m:Nat}{h:Heap}(hs:SI h v s)(hc:RI h w c)(hi:∀x∈s,inS 127 x)(ho:one1 c)(hcl:c.length<=100000)(ha: -10000000<=a/\a<=10000000)(hm:m<=8192):
  ACalls C 296 [corA v w,.int .i64 a,.int .i64 (m:Nat)] h (fun r h'=>HSub h h'/\SI h' r (bankL s c a 1 m)/\∀i∈r.ids,h.size<=i):=by
 have v1:=hs.one;have w1:=hc.one;have hz:=jbv (p:=(0,0)) (n:=m);simp only at hz;have kS:=fun(b:Int) (hb: -100000000<=b/\b<=100000000) h1 (q:HSub h h1)=>jft hC (a:=b) (hs.mono q) (hc.mono q) hi ho hcl hb;unfold corA at kS|-;refine zf 296 B296 hC ?_;simp only[B296,zB];refine zs1 hz ?_;refine jae (fun j t h'=>HSub h h'/\h.size+1<h'.size/\h'.get h.size=some (.cells [v,w] true 0)/\∃k:Nat,h'.get (h.size+1)=some (.cells (smps (bankL s c a 1 k++List.replicate (m-k) (0,0))) true 0)/\t 1=.int .i64 a/\t 3=.ptr h.size 0/\t 7=.slice (h.size+1) 0 m (.known m)/\t 12=.int .i64 (m:Nat)/\t 13=.int .i64 (k:Nat)/\k<=m/\j=m-k) (j0:=m)
  ⟨(kac _ _).push _,by simp,by exact ze,0,by refine zs ?_;rfl,rfl,rfl,rfl,rfl,rfl,by omega,rfl⟩ ?_
 rintro j t h1 ⟨s1,hz,gv,k,gb,e1,e3,e7,e12,e13,hk,hj⟩;refine zs2 e12 e13 ?_;refine kaf (fun c3=>?_) (fun c3=>?_)
 ·have hk':k<m:=by omega
  have kS:=kS (a+(k:Nat)) (by omega) h1 s1;have bs:=jii (s:=s) (c:=c) (a:=a) (w:=1) hk';rw[Int.mul_one]at bs;have hwl:(bankL s c a 1 k++List.replicate (m-k) (0,0)).length=m:=by simp[jbm];omega
  have hsl:(smps (bankL s c a 1 k++List.replicate (m-k) (0,0))).length=m*2:=by rw[jaV,hwl]
  have hset:=jda (l:=bankL s c a 1 k++List.replicate (m-k) (0,0)) (k:=k) (p:=sumP s c (a+(k:Nat))) (by rw[hwl];exact hk');rw[bs]at hset;generalize sumP s c (a+(k:Nat))=q at*;obtain⟨qx,qy⟩:=q;unfold smp at kS;dsimp only at kS hset;refine zs5 e1 e3 e7 e13 gv ?_;refine kaa kS (zs7 e1 e3 e7 e12 e13 gv (zI gb (zI hset hsl)) ?_);exact⟨_,⟨(zh s1),hz,k+1,rfl,by simp,by omega,rfl⟩,by omega⟩
 ·have ek:k=m:=by omega
  subst ek;rw[Nat.sub_self,List.replicate_zero,List.append_nil]at gb;refine zs1 e7 ?_;exact⟨s1,kaM gb ⟨(jbm _ _ _ _ _).symm,by omega⟩ (Nat.le_refl _),by omega⟩
theorem jkA(hC:Has C TA){v w:AV}{s:List (Int×Int)}{c:List Int}{a:Int}{m:Nat}{h:Heap}(hs:SI h v s)(hc:RI h w c)(hi:∀x∈s,inS 127 x)(ho:one1 c)(hcl:1<=c.length/\c.length<=8184)(ha: -10000000<=a/\a<=10000000)(hm:1<=m/\m<=8192):
  ACalls C 297 [corA v w,.int .i64 a,.int .i64 (m:Nat)] h (fun r h'=>HSub h h'/\SI h' r (bankL s c a 1 m)/\∀i∈r.ids,h.size<=i):=by
 have v1:=hs.one;have w1:=hc.one;have wl:=hc.len;have hz:=jbv (p:=(0,0)) (n:=m);simp only at hz;obtain⟨n,hn⟩:∃n,n+1=c.length+m:=⟨c.length+m-1,by omega⟩;have kp:=fun h1 (q:HSub h h1)=>jfc hC (a:=a) (m:=m) (hs.mono q) (hc.mono q) hi ho (by omega) ha (by omega);have ka:=fun(i:Int) h1 (q:HSub h h1)=>jjz hC (w:=w) (i:=i) (hs.mono q);have hq:=fun k (hk:k<m)=>jss (s:=s) (a:=a) hcl.1 hn hk;have il:(sI s a n).length=n:=by simp[sI]
 have ql:(sQ s a n).length=n:=by simp[sQ]
 have ig:=fun k (hk:k<n)=>show(sI s a n).getD k 0=(atP s (a+(k:Nat))).1 from jgL _ hk
 have qg:=fun k (hk:k<n)=>show(sQ s a n).getD k 0=(atP s (a+(k:Nat))).2 from jgL _ hk
 generalize sI s a n=LI at*;generalize sQ s a n=LQ at*;unfold corA at*;have en:(c.length:Int)+(m:Int)-1=(n:Nat):=by omega
 have hzi:List.replicate n (AV.int .i64 0)=ints (List.replicate n 0):=by simp[ints]
 have h3:∀i,h.size+1<=i->(h.push (.cells [v,w] true 0)).get i=none:=fun i hi=>(h.push (.cells [v,w] true 0)).wf i (by simp only[Heap.size_push];omega);have pl:(padC c n).length=n:=jit (by omega);have io:∀(l:List Int) k,((ints l).take k).all AV.one=true:=fun l k=>List.all_eq_true.2 (fun x hx=>by
  have q:=List.mem_of_mem_take hx;unfold ints at q;obtain⟨y,_,rfl⟩:=List.mem_map.1 q;rfl)
 have cpy:copyA (((((h.push (.cells [v,w] true 0)).reserve 9).put (h.size+1+1) (.cells (ints (List.replicate n 0)) true 0)).put (h.size+1+3) (.cells (ints (List.replicate n 0)) true 0)).put (h.size+1+5) (.cells (ints (List.replicate n 0)) true 0)) 1 (.slice (h.size+1+5) 0 n (.known n)) w=
   some (.int .i64 (c.length:Nat),(((((h.push (.cells [v,w] true 0)).reserve 9).put (h.size+1+1) (.cells (ints (List.replicate n 0)) true 0)).put (h.size+1+3) (.cells (ints (List.replicate n 0)) true 0)).put (h.size+1+5) (.cells (ints (List.replicate n 0)) true 0)).put (h.size+1+5) (.cells (ints (padC c n)) true 0)):=by
  have q:=jgC (i:=h.size+1+5) (o:=0) (n:=n) (u:=0) (c:=.known n) (vs:=ints (List.replicate n 0)) (hc.mono (show HSub h (((((h.push (.cells [v,w] true 0)).reserve 9).put (h.size+1+1) (.cells (ints (List.replicate n 0)) true 0)).put (h.size+1+3) (.cells (ints (List.replicate n 0)) true 0)).put (h.size+1+5) (.cells (ints (List.replicate n 0)) true 0))from zr)).content
   (by exact ze) (by rw[ints_length,List.length_replicate];omega) (io _ _)
  have e:min c.length n=c.length:=by omega
  have e2:(ints c).take c.length=ints c:=List.take_of_length_le (by rw[ints_length];omega);rw[e,e2,jsv (by omega)]at q;exact q
 have pz:=fun(l:List Int) k=>jnb (l:=l) (k:=k);have pa:=jsu;have ps:=fun(l:List Int) k=>jst (l:=l) (k:=k);have p0:∀l:List Int,l.length=n->preZ l 0=List.replicate n 0:=fun l hl=>by simp[preZ,hl]
 refine zf 297 B297 hC ?_;simp only[B297,zB];refine zs5 wl en h3 hzi cpy ?_;refine jae (fun j t H=>HSub h H/\h.size+10<=H.size/\H.get h.size=some (.cells [v,w] true 0)/\t 1=.int .i64 a/\t 2=.int .i64 (m:Nat)/\t 3=.ptr h.size 0/\t 8=.slice (h.size+1+1) 0 n (.known n)/\t 9=.slice (h.size+1+3) 0 n (.known n)/\t 10=.slice (h.size+1+5) 0 n (.known n)/\t 35=.int .i64 (n:Nat)/\
   H.get (h.size+1+5)=some (.cells (ints (padC c n)) true 0)/\∃k:Nat,H.get (h.size+1+1)=some (.cells (ints (preZ LI k)) true 0)/\H.get (h.size+1+3)=some (.cells (ints (preZ LQ k)) true 0)/\t 36=.int .i64 (k:Nat)/\k<=n/\j=n-k) (j0:=n)
  ⟨zr,(by refine zs ?_;omega),by exact ze,rfl,rfl,rfl,rfl,rfl,rfl,rfl,by exact ze,0,by rw[p0 _ il];exact ze,by rw[p0 _ ql];exact ze,rfl,by omega,rfl⟩ ?_
 rintro j t H ⟨sH,hz1,g0,e1,e2,e3,e8,e9,e10,e35,g5,k,g1,g3,e36,hk,hj⟩;refine zs2 e35 e36 ?_;refine kaf (fun c1=>?_) (fun c1=>?_)
 ·have hk':k<n:=by omega
  have kak:=ka (a+(k:Nat)) H sH;have igk:=ig k hk';have qgk:=qg k hk';have psi:=ps LI k (by omega);have psq:=ps LQ k (by omega);have pzi:=pz LI k (by omega);have pzq:=pz LQ k (by omega);rw[igk]at psi;rw[qgk]at psq;generalize atP s (a+(k:Nat))=x at*;obtain⟨x1,x2⟩:=x;unfold smp at kak;dsimp only at*;refine zs4 e1 e3 e36 g0 ?_;refine kaa kak (zs7 e8 e9 e36 g1 g3 pzi (zI pzq (zI psi psq)) ?_);exact⟨_,⟨(zh sH),by omega,g0,e1,e2,e3,e10,e35,g5,k+1,rfl,rfl,by omega,by omega,rfl⟩,by omega⟩
 ·obtain rfl:k=n:=by omega
  have pI:preZ LI k=LI:=by rw[<-il];exact pa LI
  have pQ:preZ LQ k=LQ:=by rw[<-ql];exact pa LQ
  rw[pI]at g1;rw[pQ]at g3;have RP:RI H (.slice (h.size+1+5) 0 k (.known k)) (padC c k):=kah g5 ⟨pl.symm,by omega⟩ (Nat.le_refl _);have RI1:RI H (.slice (h.size+1+1) 0 k (.known k)) LI:=kah g1 ⟨il.symm,by omega⟩ (Nat.le_refl _);have RQ1:RI H (.slice (h.size+1+3) 0 k (.known k)) LQ:=kah g3 ⟨ql.symm,by omega⟩ (Nat.le_refl _);have k1:=fun H1 (q:HSub H H1)=>jfb hC (RP.mono q) (RI1.mono q);have k2:=fun H1 (q:HSub H H1)=>jfb hC (RP.mono q) (RQ1.mono q);have cil:(circ (padC c k) LI).length=k:=by rw[jej,pl]
  have cql:(circ (padC c k) LQ).length=k:=by rw[jej,pl]
  generalize circ10Err (padC c k) LI=E1 at*;generalize circ10Err (padC c k) LQ=E2 at*;generalize circ (padC c k) LI=CI at*;generalize circ (padC c k) LQ=CQ at*;refine zs2 e8 e10 ?_;refine kad (k1 _ (kag _)) ?_;rintro r h1 ⟨w1',rfl,s1,Q1⟩;refine zs3 @jai.eq_1 e9 e10 ?_;refine kad (k2 _ s1) ?_;rintro r h2 ⟨w2',rfl,s2,Q2⟩;have s3:=s1.trans s2;have sH2:=sH.trans s3;have g0:=(s3.get _ (kab g0)).trans g0;by_cases c2:E1=0/\E2=0
  ·obtain⟨rfl,rfl⟩:=c2;rw[if_pos rfl]at Q1 Q2;have Q1:=Q1.mono s2;refine zs4 @jai.eq_1 e2 @gV_u hz ?_;refine jae (fun j u H'=>HSub h2 H'/\u 13=w1'/\u 15=w2'/\u 17=.slice h2.size 0 m (.known m)/\u 80=.int .i64 (m:Nat)/\∃k:Nat,H'.get h2.size=some (.cells (smps (bankL s c a 1 k++List.replicate (m-k) (0,0))) true 0)/\u 81=.int .i64 (k:Nat)/\k<=m/\j=m-k) (j0:=m)
    ⟨kac _ _,rfl,rfl,rfl,rfl,0,by refine zs ?_;rfl,rfl,by omega,rfl⟩ ?_
   rintro j u H' ⟨sH',f13,f15,f17,f80,i,gb,f81,hi',hj'⟩;refine zs2 f80 f81 ?_;refine kaf (fun c3=>?_) (fun c3=>?_)
   ·have hik:i<m:=by omega
    have A1:=Q1.mono sH';have A2:=Q2.mono sH';have ld1:=A1.load (k:=i) (by omega);have ld2:=A2.load (k:=i) (by omega);have bs:=jii (s:=s) (c:=c) (a:=a) (w:=1) hik;rw[Int.mul_one,<-hq i hik]at bs;have hwl:(bankL s c a 1 i++List.replicate (m-i) (0,0)).length=m:=by simp[jbm];omega
    have hsl:(smps (bankL s c a 1 i++List.replicate (m-i) (0,0))).length=m*2:=by rw[jaV,hwl]
    have hset:=jda (l:=bankL s c a 1 i++List.replicate (m-i) (0,0)) (k:=i) (p:=(CI.getD i 0,CQ.getD i 0)) (by rw[hwl];exact hik);rw[bs]at hset;dsimp only at hset;generalize CI.getD i 0=q1 at*;generalize CQ.getD i 0=q2 at*;have lb:=kab gb;refine zs7 f13 f15 f17 f81 @A1.idx @A2.idx (zI ld1 (zI ld2 (zI gb (zI hset hsl)))) ?_;exact⟨_,⟨sH'.put (Nat.le_refl _) _,f80,i+1,by exact ze,by omega,by omega,rfl⟩,by omega⟩
   ·obtain rfl:i=m:=by omega
    rw[Nat.sub_self,List.replicate_zero,List.append_nil]at gb;refine zs1 f17 ?_;have z2:=sH2.size;exact⟨sH2.trans sH',kaM gb ⟨(jbm _ _ _ _ _).symm,by omega⟩ (Nat.le_refl _),by omega⟩
  ·have kpl:=kp h2 sH2;by_cases c3:E1=0
   ·have c4:¬E2=0:=fun q=>c2 ⟨c3,q⟩;refine zs7 @jai.eq_1 c3 c4 e1 e2 e3 (zI g0 @gV_u) ?_;refine kad kpl ?_;rintro r h3 ⟨s4,S4,F4⟩;refine zs ?_;exact⟨sH2.trans s4,S4,fun i hi=>Nat.le_trans sH2.size (F4 i hi)⟩
   ·refine zs7 @jai.eq_1 c3 e1 e2 e3 g0 @gV_u ?_;refine kad kpl ?_;rintro r h3 ⟨s4,S4,F4⟩;refine zs ?_;exact⟨sH2.trans s4,S4,fun i hi=>Nat.le_trans sH2.size (F4 i hi)⟩
structure PlanP where
 d:Int
 o:Int
 pb:Int
 w:Int
 mn:Int
 mx:Int
 nz:Int
 prns:List Int
def PlanP.ok64(p:PlanP):Prop:=In64 p.d/\In64 p.o/\In64 p.pb/\In64 p.w/\In64 p.mn/\In64 p.mx/\In64 p.nz/\∀x∈p.prns,In64 x
def PlI(h:Heap)(v:AV)(p:PlanP):Prop:=∃vp,v=.agg [.int .i64 p.d,.int .i64 p.o,.int .i64 p.pb,.int .i64 p.w,.int .i64 p.mn,.int .i64 p.mx,.int .i64 p.nz,vp]/\RI h vp p.prns
theorem PlI.mono{v:AV}{p:PlanP}(H:PlI h v p)(hs:HSub h h'):PlI h' v p:=by obtain⟨vp,e,r⟩:=H;exact⟨vp,e,r.mono hs⟩
def PlanP.numsOk(p:PlanP):Prop:=lenOk p.d=true/\(1<=p.o/\p.o<=8)/\(1<=p.pb/\p.pb<=20)/\(2<=p.w/\p.w<=10)/\(1<=p.mn/\p.mn<=p.mx)/\p.mx<=1000/\(0<=p.nz/\p.nz<=100000)
instance (p:PlanP):Decidable p.numsOk:=by unfold PlanP.numsOk;exact inferInstance
def jbi(n:Int):List Int->List Int->Int
 |_,[]=>0
 |seen,x::xs=>if ¬(1<=x/\x<=n+2)then 2 else if seen.any (fun y=>x==y)=true then 8 else jbi n (seen++[x]) xs
def PlanP.err(p:PlanP):Int:=if p.numsOk then if p.prns.length=0 then 3 else if 8<p.prns.length then 4 else jbi (lenN p.d) [] p.prns else 2
theorem jf5(n:Int):∀(xs seen:List Int),jbi n seen xs=0\/jbi n seen xs=2\/jbi n seen xs=8
 |[],_=>.inl rfl
 | x :: xs, seen => by
  unfold jbi;split
  ·exact .inr (.inl rfl)
  ·split
   ·exact .inr (.inr rfl)
   ·exact jf5 n xs _
structure EmitP where
 prn:Int
 dl:Int
 rt:Int
 st:Int
 ph:Int
 amp:Int
 ba:Int
 bits:List Int
def EmitP.ok64(e:EmitP):Prop:=In64 e.prn/\In64 e.dl/\In64 e.rt/\U32 e.st/\U32 e.ph/\In64 e.amp/\In64 e.ba/\∀x∈e.bits,In64 x
def EmI(h:Heap)(v:AV)(e:EmitP):Prop:=∃vb,v=.agg [.int .i64 e.prn,.int .i64 e.dl,.int .i64 e.rt,.int .u32 e.st,.int .u32 e.ph,.int .i64 e.amp,.int .i64 e.ba,vb]/\RI h vb e.bits
theorem EmI.mono{v:AV}{p:EmitP}(H:EmI h v p)(hs:HSub h h'):EmI h' v p:=by obtain⟨vp,e,r⟩:=H;exact⟨vp,e,r.mono hs⟩
def PlanP.size(p:PlanP):Int:=lenN p.d*p.o
def EmitP.numsOk(e:EmitP)(p:PlanP):Prop:=(0<=e.dl/\e.dl<p.size)/\(-64<=e.rt/\e.rt<=64)/\(p.mn<=e.amp/\e.amp<=p.mx)/\(0<=e.ba/\e.ba<p.pb)
instance (e:EmitP) (p:PlanP):Decidable (e.numsOk p):=by unfold EmitP.numsOk;exact inferInstance
def emitErr(p:PlanP)(e:EmitP):Int:=if p.err=0 then if(p.prns.any fun y=>e.prn==y)=true then if e.numsOk p then if 10000<e.bits.length then 4 else if e.bits.any (fun b=>b !=0&&b !=1)=true then 3 else 0 else 2 else 18 else p.err
def madeErr(p:PlanP)(e:EmitP)(n:Int):Int:=if emitErr p e=0 then if n< -10000000\/10000000<n then 2 else 0 else emitErr p e
def stI(dl sz rt k:Int):Int:=dl+k*sz+k*rt/1024
theorem st_le{dl sz rt k n:Int}(hd:0<1024*sz+rt):stI dl sz rt k<=n↔k<=(1024*(n-dl+1)-1)/(1024*sz+rt):=by
 unfold stI;rw[Int.le_ediv_iff_mul_le hd];have e:k*(1024*sz+rt)=1024*(k*sz)+k*rt:=by grind
 rw[e];generalize k*sz=A;generalize k*rt=B;omega
def plI(dl sz rt n:Int):Int:=(1024*(n-dl+1)-1)/(1024*sz+rt)
theorem pl_le{dl sz rt n:Int}(hd:0<1024*sz+rt):stI dl sz rt (plI dl sz rt n)<=n:=(st_le hd).2 (Int.le_refl _)
theorem pl_lt{dl sz rt n:Int}(hd:0<1024*sz+rt):n<stI dl sz rt (plI dl sz rt n+1):=by
 have h:=(st_le (dl:=dl) (n:=n) (k:=plI dl sz rt n+1) hd).1;rcases Int.lt_or_le n (stI dl sz rt (plI dl sz rt n+1))with x|x
 ·exact x
 ·have:=h x;unfold plI at this;omega
theorem pl_of{dl sz rt n k:Int}(hd:0<1024*sz+rt)(h1:stI dl sz rt k<=n)(h2:n<stI dl sz rt (k+1)):k=plI dl sz rt n:=by
 have a:=(st_le hd).1 h1;have b:¬k+1<=plI dl sz rt n:=fun x=>by
  have:=(st_le (dl:=dl) (n:=n) hd).2 x;omega
 unfold plI at b|-;omega
theorem jkB{dl sz rt k:Int}(hr: -64<=rt/\rt<=64):sz-1<=stI dl sz rt (k+1)-stI dl sz rt k/\stI dl sz rt (k+1)-stI dl sz rt k<=sz+1:=by
 unfold stI;have e1:(k+1)*sz=k*sz+sz:=by grind
 have e2:(k+1)*rt=k*rt+rt:=by grind
 rw[e1,e2];generalize k*sz=A;generalize k*rt=B;omega
def bitI(p:PlanP)(e:EmitP)(k:Int):Int:=if e.bits.length=0 then 0 else e.bits.getD (((k-e.ba)/p.pb)% e.bits.length).toNat 0
def plA(p:PlanP)(vp:AV):AV:=.agg [.int .i64 p.d,.int .i64 p.o,.int .i64 p.pb,.int .i64 p.w,.int .i64 p.mn,.int .i64 p.mx,.int .i64 p.nz,vp]
theorem jlT(n:Int)(l:List Int)(k:Nat)(hk:k<l.length):jbi n (l.take k) (l.drop k)=if ¬(1<=l.getD k 0/\l.getD k 0<=n+2)then 2 else if((l.take k).any fun y=>l.getD k 0==y)=true then 8 else jbi n (l.take (k+1)) (l.drop (k+1)):=by
 rw[List.drop_eq_getElem_cons hk,jbi,jap hk,List.getD_eq_getElem?_getD,List.getElem?_eq_getElem hk];rfl
theorem ji8(hC:Has C TA){x lo hi:Int}:ACalls C 237 [.int .i64 x,.int .i64 lo,.int .i64 hi] h (fun r h'=>r=.bool (decide (lo<=x/\x<=hi))/\h'=h):=by
 refine zf 237 B237 hC ?_;simp only[B237,zB];refine zs ?_;by_cases c:lo<=x
 ·exact ze2 @gV_u c
 ·refine zs2 @gV_u c ?_;simp
theorem jbH (hC : Has C TA) {v : AV} {p : PlanP} (hp : PlI h v p) (h64 : p.ok64) : ACalls C 219 [v] h (fun r h' => r = .int .i64 p.err /\ h' = h) := by
 refine kae (P:=fun r h'=>r=.int .i64 p.err/\HSub h h') ?_ (fun r h' hp=>⟨by rw[hp.1];trivial,hp.2,hp.1,rfl⟩);obtain⟨vp,rfl,R⟩:=hp;have v1:=R.one;have hlt:=R.lt;obtain⟨i1,i2,i3,i4,i5,i6,i7,i8⟩:=h64;have W:=fun x lo hi h=>ji8 (x:=x) (lo:=lo) (hi:=hi) (h:=h) hC;have L:=fun h=>jbh hC (h:=h) i1;have e2:¬p.numsOk->p.err=2:=fun q=>by unfold PlanP.err;rw[if_neg q]
 have s1:∀b,HSub h (h.push b):=kac h;have e3:p.numsOk->p.err=if p.prns.length=0 then 3 else if 8<p.prns.length then 4 else jbi (lenN p.d) [] p.prns:=fun q=>by unfold PlanP.err;rw[if_pos q]
 have eN:p.numsOk↔lenOk p.d=true/\(1<=p.o/\p.o<=8)/\(1<=p.pb/\p.pb<=20)/\(2<=p.w/\p.w<=10)/\(1<=p.mn/\p.mn<=p.mx)/\p.mx<=1000/\(0<=p.nz/\p.nz<=100000):=Iff.rfl;generalize p.err=E at*;generalize p.numsOk=Q at*;obtain⟨d,o,pb,w,mn,mx,nz,prns⟩:=p;dsimp only at*;have q1:∀b,Q->False->HSub h (h.push b):=fun b _ f=>f.elim;by_cases c1:lenOk d=true
 ·have el : lenE d = tup2 (lenN d) 0 := by unfold lenE; rw [if_pos c1]
  simp only[el]at L;have hN:=jbk c1;refine zf 219 B219 hC ?_;simp only[B219,zB];refine zs ?_;refine kaa (L _) (zs1 @tup2.eq_1 ?_);refine kaa (W _ _ _ _) ?_;by_cases c2:1<=o/\o<=8
  ·refine zs1 c2 ?_;refine kaa (W _ _ _ _) ?_;by_cases c3:1<=pb/\pb<=20
   ·refine zs1 c3 ?_;refine kaa (W _ _ _ _) ?_;by_cases c4:2<=w/\w<=10
    ·refine zs1 c4 ?_;refine kaa (W _ _ _ _) ?_;by_cases c5:1<=mn/\mn<=mx
     ·refine zs1 c5 ?_;by_cases c6:mx<=1000
      ·refine zs1 c6 ?_;refine kaa (W _ _ _ _) ?_;by_cases c7:0<=nz/\nz<=100000
       ·refine zs1 c7 ?_;have e:=e3 (eN.2 ⟨c1,c2,c3,c4,c5,c6,c7⟩);by_cases c8:prns.length=0
        ·rw[if_pos c8]at e;refine zs2 @R.len @c8 ?_;exact⟨e.symm,s1 _⟩
        ·rw [if_neg c8] at e;by_cases c9 : 8 < prns.length
         ·rw[if_pos c9]at e;refine zs3 @R.len @c8 @c9 ?_;exact⟨e.symm,s1 _⟩
         ·rw[if_neg c9]at e;refine zs3 @R.len @c8 @c9 ?_;refine jae (fun j t h'=>HSub h h'/\h.size<h'.size/\h'.get h.size=some (.cells [.int .i64 d,.int .i64 o,.int .i64 pb,.int .i64 w,.int .i64 mn,.int .i64 mx,.int .i64 nz,vp] true 0)/\∃k:Nat,jbi (lenN d) (prns.take k) (prns.drop k)=E/\t 1=.ptr h.size 0/\t 3=.int .i64 (lenN d)/\t 5=.func 237 [] []/\t 58=vp/\t 59=.int .i64 (prns.length:Nat)/\t 60=.int .i64 (k:Nat)/\k<=prns.length/\j=prns.length-k) (j0:=prns.length)
           ⟨s1 _,by simp,by exact ze,0,e.symm,rfl,rfl,rfl,rfl,rfl,rfl,by omega,rfl⟩ ?_
          rintro j t h1 ⟨t1,hz,gp,k,ek,e1,e3,e5,e58,e59,e60,hk,hj⟩;refine zs2 e59 e60 ?_;refine kaf (fun d1=>?_) (fun d1=>?_)
          ·have hk':k<prns.length:=by omega
           have R1:=R.mono t1;have ld:=R1.load hk';have st:=jlT (lenN d) prns k hk';rw[ek]at st;have hx:=i8 _ (jam hk');have pt:=R1.part_b (k2:=.i64) (b:=(k:Int)) ⟨by omega,by omega⟩;obtain⟨v',hv',R'⟩:=pt;rw[Int.toNat_natCast]at R';have ct:=jbD hC (x:=prns.getD k 0) R';have ctn:=fun h2 (q:HSub h1 h2)=>jbD hC (x:=prns.getD k 0) (R'.mono q);generalize prns.getD k 0=x at*;refine zs7 e1 e3 e5 e58 e60 @R1.idx ld ?_;refine kaa (W _ _ _ _) ?_;by_cases d2:1<=x/\x<=(lenN d:Int)+2
           ·rw[if_neg (fun q=>q d2)]at st;refine zs5 @d2 e1 gp hv' e60 ?_;refine kaa (ctn _ zr) ?_;by_cases d3:((prns.take k).any fun y=>x==y)=true
            ·rw[if_pos d3]at st;refine zs1 d3 ?_;exact⟨st.symm,(zh t1)⟩
            ·rw[if_neg d3]at st;have d4:((prns.take k).any fun y=>x==y)=false:=Bool.eq_false_iff.2 d3;refine zs7 d4 e1 e3 e5 e58 e59 e60 ?_;exact⟨_,⟨t1,hz,gp,k+1,st.symm,by simp,by omega,rfl⟩,by omega⟩
           ·rw[if_pos d2]at st;refine zs1 @d2 ?_;exact⟨st.symm,(zh t1)⟩
          ·have ek2:k=prns.length:=by omega
           subst ek2;rw[List.drop_length,jbi]at ek;refine zs ?_;exact⟨ek,t1⟩
       ·have e:=e2 (fun q=>c7 (eN.1 q).2.2.2.2.2.2);refine zs1 c7 ?_;exact⟨e.symm,s1 _⟩
      ·have e:=e2 (fun q=>c6 (eN.1 q).2.2.2.2.2.1);refine zs1 c6 ?_;exact⟨e.symm,s1 _⟩
     ·have e:=e2 (fun q=>c5 (eN.1 q).2.2.2.2.1);refine zs1 c5 ?_;exact⟨e.symm,s1 _⟩
    ·have e:=e2 (fun q=>c4 (eN.1 q).2.2.2.1);refine zs1 c4 ?_;exact⟨e.symm,s1 _⟩
   ·have e:=e2 (fun q=>c3 (eN.1 q).2.2.1);refine zs1 c3 ?_;exact⟨e.symm,s1 _⟩
  ·have e:=e2 (fun q=>c2 (eN.1 q).2.1);refine zs1 c2 ?_;exact⟨e.symm,s1 _⟩
 ·have el:lenE d=tup2 0 2:=by unfold lenE;rw[if_neg c1]
  simp only[el]at L;have e:=e2 (fun q=>c1 (eN.1 q).1);refine zf 219 B219 hC ?_;simp only[B219,zB];refine zs ?_;refine kaa (L _) (zs1 @tup2.eq_1 ?_);exact⟨e.symm,s1 _⟩
theorem jsw{k i:Nat}{x:Int}(hk:k<=l.length)(hi:i<k)(h:l.getD i 0=x):((l.take k).any fun y=>x==y)=true:=by
 rw[List.any_eq_true];refine⟨x,?_,by simp⟩;rw[<-h,List.getD_eq_getElem?_getD,List.getElem?_eq_getElem (by omega)];exact List.mem_take_iff_getElem.2 ⟨i,by omega,rfl⟩
theorem jnc{k:Nat}{x:Int}(hk:k<=l.length)(h:∀i,i<k->l.getD i 0≠x):((l.take k).any fun y=>x==y)=false:=by
 rw[List.any_eq_false];intro y hy;obtain⟨i,hi,e⟩:=List.mem_take_iff_getElem.1 hy;have:=h i (by omega);rw[List.getD_eq_getElem?_getD,List.getElem?_eq_getElem (by omega)]at this;simp only[Option.getD_some]at this;rw[e]at this;simp only[beq_iff_eq];exact fun q=>this q.symm
theorem jdc(hC:Has C TA){v:AV}{p:PlanP}(hp:PlI h v p)(h64:p.ok64):ACalls C 220 [v] h (fun r h'=>r=.int .i64 p.err/\h'=h):=by
 refine kae (P:=fun r h'=>r=.int .i64 p.err/\HSub h h') ?_ (fun r h' hp=>⟨by rw[hp.1];trivial,hp.2,hp.1,rfl⟩);obtain⟨vp,rfl,R⟩:=hp;have v1:=R.one;have hlt:=R.lt;obtain⟨i1,i2,i3,i4,i5,i6,i7,i8⟩:=h64;have L:=fun h=>ja3 hC (h:=h) i1;have e2:¬p.numsOk->p.err=2:=fun q=>by unfold PlanP.err;rw[if_neg q]
 have s1:∀b,HSub h (h.push b):=kac h;have e3:p.numsOk->p.err=if p.prns.length=0 then 3 else if 8<p.prns.length then 4 else jbi (lenN p.d) [] p.prns:=fun q=>by unfold PlanP.err;rw[if_pos q]
 have eN:p.numsOk↔lenOk p.d=true/\(1<=p.o/\p.o<=8)/\(1<=p.pb/\p.pb<=20)/\(2<=p.w/\p.w<=10)/\(1<=p.mn/\p.mn<=p.mx)/\p.mx<=1000/\(0<=p.nz/\p.nz<=100000):=Iff.rfl;generalize p.err=E at*;generalize p.numsOk=Q at*;obtain⟨d,o,pb,w,mn,mx,nz,prns⟩:=p;dsimp only at*;by_cases c1:lenOk d=true
 ·have el : lenE d = tup2 (lenN d) 0 := by unfold lenE; rw [if_pos c1]
  simp only[el]at L;have hN:=jbk c1;by_cases cA:(1<=o/\o<=8)/\(1<=pb/\pb<=20)/\(2<=w/\w<=10)
  ·have n1 : ¬ o < 1 := by omega
   have n2:¬8<o:=by omega
   have n3:¬pb<1:=by omega
   have n4:¬20<pb:=by omega
   have n5:¬w<2:=by omega
   have n6:¬10<w:=by omega
   by_cases cB:(1<=mn/\mn<=mx)/\mx<=1000/\(0<=nz/\nz<=100000)
   ·have m1:¬mn<1:=by omega
    have m2:¬mx<mn:=by omega
    have m3:¬1000<mx:=by omega
    have m4:¬nz<0:=by omega
    have m5:¬100000<nz:=by omega
    have e:=e3 (eN.2 ⟨c1,cA.1,cA.2.1,cA.2.2,cB.1,cB.2.1,cB.2.2⟩);by_cases c8:prns.length=0
    ·rw[if_pos c8]at e;refine zf 220 B220 hC ?_;simp only[B220,zB];refine zs ?_;refine kaa (L _) (zs7 @tup2.eq_1 @gV_u @n1 @n2 @n3 @n4 (zI @n5 (zI @n6 (zI @m1 (zI @m2 (zI @m3 (zI @m4 (zI @m5 (zI @R.len @c8)))))))) ?_);exact⟨e.symm,s1 _⟩
    ·rw [if_neg c8] at e;by_cases c9 : 8 < prns.length
     ·rw[if_pos c9]at e;refine zf 220 B220 hC ?_;simp only[B220,zB];refine zs ?_;refine kaa (L _) (zs7 @tup2.eq_1 @gV_u @n1 @n2 @n3 @n4 (zI @n5 (zI @n6 (zI @m1 (zI @m2 (zI @m3 (zI @m4 (zI @m5 (zI @R.len (zI @c8 @c9))))))))) ?_);exact⟨e.symm,s1 _⟩
     ·rw [if_neg c9] at e;refine zf 220 B220 hC ?_; simp only [B220, zB]; refine zs ?_;refine kaa (L _) (zs7 @tup2.eq_1 @gV_u @n1 @n2 @n3 @n4 (zI @n5 (zI @n6 (zI @m1 (zI @m2 (zI @m3 (zI @m4 (zI @m5 (zI @R.len (zI @c8 @c9))))))))) ?_);refine jae (fun j t h' => h' = h.push (.cells [.int .i64 d, .int .i64 o, .int .i64 pb, .int .i64 w, .int .i64 mn, .int .i64 mx, .int .i64 nz, vp] true 0) /\ ∃ k : Nat, jbi (lenN d) (prns.take k) (prns.drop k) = E /\ t 1 = .ptr h.size 0 /\ t 3 = .int .i64 (lenN d) /\ t 5 = .int .i64 (k : Nat) /\ k <= prns.length /\ j = prns.length - k) (j0 := prns.length)
       ⟨rfl,0,e.symm,rfl,rfl,rfl,by omega,rfl⟩ ?_
      rintro j t h1 ⟨hh,k,ek,e1,e3,e5,hk,hj⟩;have gp:h1.get h.size=some (.cells [.int .i64 d,.int .i64 o,.int .i64 pb,.int .i64 w,.int .i64 mn,.int .i64 mx,.int .i64 nz,vp] true 0):=by rw[hh];exact get_push_eq rfl
      have t1:HSub h h1:=by rw[hh];exact s1 _
      have R1:=R.mono t1;refine zs4 e1 e5 gp @R1.len ?_;refine kaf (fun d1=>?_) (fun d1=>?_)
      ·have hk':k<prns.length:=by omega
       have ld:=R1.load hk';have st:=jlT (lenN d) prns k hk';rw[ek]at st;have at1:=fun i (hi:i<k) (q:prns.getD i 0=prns.getD k 0)=>jsw (by omega) hi q;have at2:=fun(q:∀i,i<k->prns.getD i 0≠prns.getD k 0)=>jnc (x:=prns.getD k 0) (by omega) q;generalize hx:prns.getD k 0=x at*;by_cases d2:1<=x/\x<=(lenN d:Int)+2
       ·rw [if_neg (fun q => q d2)] at st;have d3 : ¬ x < 1 := by omega
        have d4:¬(lenN d:Int)+2<x:=by omega
        refine zs7 e1 e3 e5 gp @R1.idx ld (zI @gV_u (zI d3 d4)) ?_;refine jae (fun j t h'=>h'=h1/\∃i:Nat,(∀m,m<i->prns.getD m 0≠x)/\t 1=.ptr h.size 0/\t 3=.int .i64 (lenN d)/\t 5=.int .i64 (k:Nat)/\t 6=.int .i64 (i:Nat)/\i<=k/\j=k-i) (j0:=k)
         ⟨rfl,0,fun m hm=>by omega,e1,e3,e5,rfl,by omega,rfl⟩ ?_
        rintro j t h2 ⟨rfl,i,hm,e1,e3,e5,e6,hi,hj2⟩;refine zs2 e5 e6 ?_;refine kaf (fun d5=>?_) (fun d5=>?_)
        ·have hi':i<k:=by omega
         have ld2:=R1.load (k:=i) (by omega);by_cases d6:prns.getD i 0=x
         ·rw[if_pos (at1 i hi' d6)]at st;refine zs7 e1 e5 e6 gp @R1.idx ld (zI ld2 @d6) ?_;exact⟨st.symm,t1⟩
         ·refine zs7 e1 e3 e5 e6 gp @R1.idx (zI ld (zI ld2 @d6)) ?_;refine⟨_,⟨i+1,fun m hm2=>?_,by simp,by omega,rfl⟩,by omega⟩;rcases Nat.lt_or_ge m i with y|y
          ·exact hm m y
          ·have:m=i:=by omega
           subst this;exact d6
        ·have ei:i=k:=by omega
         subst ei;rw[if_neg (by rw[at2 hm];simp)]at st;refine zs4 e1 e3 e5 hh ?_;exact⟨_,⟨i+1,st.symm,by simp,by omega,rfl⟩,by omega⟩
       ·rw[if_pos d2]at st;by_cases d3:x<1
        ·refine zs7 e1 e3 e5 gp @R1.idx ld (zI @gV_u d3) ?_;exact⟨st.symm,t1⟩
        ·have d4:(lenN d:Int)+2<x:=by omega
         refine zs7 e1 e3 e5 gp @R1.idx ld (zI @gV_u (zI d3 d4)) ?_;exact⟨st.symm,t1⟩
      ·have ek2:k=prns.length:=by omega
       rw[ek2,List.drop_length,jbi]at ek;refine zs ?_;exact⟨ek,t1⟩
   ·have e:=e2 (fun q=>cB (eN.1 q).2.2.2.2);refine zf 220 B220 hC ?_;simp only[B220,zB];refine zs ?_;refine kaa (L _) (zs7 @tup2.eq_1 @gV_u @n1 @n2 @n3 @n4 (zI @n5 @n6) ?_)
    (repeat' (first|(refine kaf (fun _=>?_) (fun _=>?_))|(refine zs1 @gV_u ?_)))
    all_goals first
     |exact⟨e.symm,s1 _⟩
     |(exfalso;omega)
  ·have e:=e2 (fun q=>cA ⟨(eN.1 q).2.1,(eN.1 q).2.2.1,(eN.1 q).2.2.2.1⟩);refine zf 220 B220 hC ?_;simp only[B220,zB];refine zs ?_;refine kaa (L _) (zs2 @tup2.eq_1 @gV_u ?_)
   (repeat' (first|(refine kaf (fun _=>?_) (fun _=>?_))|(refine zs1 @gV_u ?_)))
   all_goals first
    |exact⟨e.symm,s1 _⟩
    |(exfalso;omega)
 ·have el:lenE d=tup2 0 2:=by unfold lenE;rw[if_neg c1]
  simp only[el]at L;have e:=e2 (fun q=>c1 (eN.1 q).1);refine zf 220 B220 hC ?_;simp only[B220,zB];refine zs ?_;refine kaa (L _) (zs2 @tup2.eq_1 @gV_u ?_);exact⟨e.symm,s1 _⟩
theorem jnd{p:PlanP}(h:p.err=0):p.numsOk:=by
 unfold PlanP.err at h;split at h
 ·assumption
 ·omega
theorem jal{p:PlanP}(h:p.numsOk):31<=p.size/\p.size<=8184/\p.size=((lenN p.d*p.o.toNat:Nat):Int):=by
 have hN:=jbk h.1;have ho:=h.2.1;obtain⟨o,eo⟩:=Int.eq_ofNat_of_zero_le (show 0<=p.o by omega);have e:p.size=((lenN p.d*p.o.toNat:Nat):Int):=by
  unfold PlanP.size;rw[eo,Int.toNat_natCast];exact(Int.natCast_mul _ _).symm
 have a1:lenN p.d*1<=lenN p.d*p.o.toNat:=Nat.mul_le_mul_left _ (by omega);have a2:lenN p.d*p.o.toNat<=1023*8:=Nat.mul_le_mul (by omega) (by omega);omega
theorem jgM(p:PlanP)(e:EmitP):emitErr p e=0\/emitErr p e=2\/emitErr p e=3\/emitErr p e=4\/emitErr p e=8\/emitErr p e=18:=by
 unfold emitErr;have hp:p.err=0\/p.err=2\/p.err=3\/p.err=4\/p.err=8:=by
  unfold PlanP.err;split
  ·split
   ·simp
   ·split
    ·simp
    ·have:=jf5 (lenN p.d) p.prns [];omega
  ·simp
 split
 ·repeat' split
  all_goals simp
 ·omega
theorem jb9(hC:Has C TA){p:PlanP}(hn:p.numsOk)(v1:vp.one=true):ACalls C 244 [plA p vp] h (fun r h'=>r=.int .i64 p.size/\h'=h):=by
 refine kae (P:=fun r h'=>r=.int .i64 p.size/\HSub h h') ?_ (fun r h' hp=>⟨by rw[hp.1];trivial,hp.2,hp.1,rfl⟩);have sr:=jal hn;have hN:=jbk hn.1;have hl:=jbw hn.1;have ho:=hn.2.1;have e1:((lenN p.d+1:Nat):Int)-1=lenN p.d:=by omega
 have es:p.size=(lenN p.d:Int)*p.o:=rfl;rw[es]at sr|-;unfold plA;obtain⟨d,o,pb,w,mn,mx,nz,prns⟩:=p;dsimp only at*;refine zf 244 B244 hC ?_;simp only[B244,zB];refine zs3 @Int.one_mul @hN.2.2 e1 ?_;exact kac _ _
theorem joa{k:Nat}(hk:k<l.length)(p:Int->Bool):((l.take (k+1)).any p)=((l.take k).any p||p (l.getD k 0)):=by
 rw[jap hk,List.any_append];simp
theorem jiu(hC:Has C TA){v w:AV}{p:PlanP}{e:EmitP}(hp:PlI h v p)(he:EmI h w e)(h64:p.ok64)(h65:e.ok64):ACalls C 224 [v,w] h (fun r h'=>r=.int .i64 (emitErr p e)/\h'=h):=by
 refine kae (P:=fun r h'=>r=.int .i64 (emitErr p e)/\HSub h h') ?_ (fun r h' hp=>⟨by rw[hp.1];trivial,hp.2,hp.1,rfl⟩);have kc:=fun h1 (q:HSub h h1)=>jdc hC (hp.mono q) h64;have pr:=jgM p e;obtain⟨vp,rfl,R⟩:=hp;obtain⟨vb,rfl,B⟩:=he;have v1:=R.one;have b1:=B.one;have hlt:=R.lt;have blt:=B.lt;have hE:emitErr p e=if p.err=0 then if(p.prns.any fun y=>e.prn==y)=true then if e.numsOk p then if 10000<e.bits.length then 4 else if e.bits.any (fun b=>b !=0&&b !=1)=true then 3 else 0 else 2 else 18 else p.err:=rfl
 generalize emitErr p e=E at*;have kS:=fun(q:p.numsOk) h1=>jb9 hC (vp:=vp) (h:=h1) q v1;unfold plA at kS;by_cases c:p.err=0
 ·have hn:=jnd c;have kS:=kS hn;rw[if_pos c]at hE;rw[c]at kc;have g1:(p.prns.any fun y=>e.prn==y)=false->E=18:=fun q=>by rw[hE,if_neg (by rw[q];decide)]
  have g2:(p.prns.any fun y=>e.prn==y)=true->¬((0<=e.dl/\e.dl<p.size)/\(-64<=e.rt/\e.rt<=64)/\(p.mn<=e.amp/\e.amp<=p.mx)/\(0<=e.ba/\e.ba<p.pb))->E=2:=fun q q2=>by rw[hE,if_pos q,if_neg (show ¬e.numsOk p from q2)]
  have g3:(p.prns.any fun y=>e.prn==y)=true->((0<=e.dl/\e.dl<p.size)/\(-64<=e.rt/\e.rt<=64)/\(p.mn<=e.amp/\e.amp<=p.mx)/\(0<=e.ba/\e.ba<p.pb))->E=if 10000<e.bits.length then 4 else if e.bits.any (fun b=>b !=0&&b !=1)=true then 3 else 0:=fun q q2=>by rw[hE,if_pos q,if_pos (show e.numsOk p from q2)]
  clear hE;generalize p.size=sz at*;obtain⟨d,o,pb,wo,mn,mx,nz,prns⟩:=p;obtain⟨prn,dl,rt,st,ph,amp,ba,bits⟩:=e;dsimp only at*;have sH:∀b c,HSub h ((h.push b).push c):=fun b c=>(kac h b).push c;have a0:(prns.take prns.length).any (fun y=>prn==y)=(prns.any fun y=>prn==y):=by rw[List.take_length]
  have z0:(bits.take bits.length).any (fun b=>b !=0&&b !=1)=(bits.any fun b=>b !=0&&b !=1):=by rw[List.take_length]
  generalize (prns.any fun y=>prn==y)=b at*;generalize (bits.any fun b=>b !=0&&b !=1)=z at*;refine zf 224 B224 hC ?_;simp only[B224,zB];refine zs ?_;refine kal (fun H hH=>?_);have t1:HSub h H:=by rw[hH];exact sH _ _
  have gp:H.get h.size=some (.cells [.int .i64 d,.int .i64 o,.int .i64 pb,.int .i64 wo,.int .i64 mn,.int .i64 mx,.int .i64 nz,vp] true 0):=by rw[hH];exact ze
  have ge:H.get (h.size+1)=some (.cells [.int .i64 prn,.int .i64 dl,.int .i64 rt,.int .u32 st,.int .u32 ph,.int .i64 amp,.int .i64 ba,vb] true 0):=by rw[hH];exact ze
  have R1:=R.mono t1;have B1:=B.mono t1;have kc:=kc H t1;clear hH;refine kaa kc (zs ?_);refine jae (fun j t h'=>h'=H/\∃k:Nat,t 2=.ptr h.size 0/\t 3=.ptr (h.size+1) 0/\t 6=.bool ((prns.take k).any fun y=>prn==y)/\t 7=.int .i64 (k:Nat)/\k<=prns.length/\j=prns.length-k) (j0:=prns.length)
   ⟨rfl,0,rfl,rfl,rfl,rfl,by omega,rfl⟩ ?_
  rintro j t h1 ⟨rfl,k,e2,e3,e6,e7,hk,hj⟩;refine zs4 e2 e7 gp @R1.len ?_;refine kaf (fun d1=>?_) (fun d1=>?_)
  ·have hk':k<prns.length:=by omega
   have ld:=R1.load hk';have asx:=joa hk' (fun y=>prn==y);have eb:(prn==prns.getD k 0)=decide (prns.getD k 0=prn):=by
    rw[Bool.eq_iff_iff];simp;exact⟨fun q=>q.symm,fun q=>q.symm⟩
   rw[eb]at asx;cases hb:(prns.take k).any (fun y=>prn==y)
   ·rw[hb]at e6 asx;refine zs7 e2 e3 e6 e7 gp ge (zI @R1.idx (zI ld @gV_u)) ?_;exact⟨_,⟨k+1,by rw[asx];simp,by simp,by omega,rfl⟩,by omega⟩
   ·rw[hb]at e6 asx;refine zs7 e2 e3 e6 e7 gp ge (zI @R1.idx (zI ld @gV_u)) ?_;exact⟨_,⟨k+1,by rw[asx];simp,by simp,by omega,rfl⟩,by omega⟩
  ·have ek:k=prns.length:=by omega
   rw[ek,a0]at e6;cases b
   ·have g:=g1 rfl;refine zs1 e6 ?_;exact⟨g.symm,t1⟩
   ·have g2:=g2 rfl;have g3:=g3 rfl;by_cases c2:((0<=dl/\dl<sz)/\(-64<=rt/\rt<=64)/\(mn<=amp/\amp<=mx)/\(0<=ba/\ba<pb))
    ·have n0:¬dl<0:=by omega
     have n1:¬sz<=dl:=by omega
     have n2:¬rt< -64:=by omega
     have n3:¬64<rt:=by omega
     have n4:¬amp<mn:=by omega
     have n5:¬mx<amp:=by omega
     have n6:¬ba<0:=by omega
     have n7:¬pb<=ba:=by omega
     have g:=g3 c2;refine zs7 e2 e3 e6 gp ge @gV_u n0 ?_;refine kaa (kS _) ?_;by_cases c3:10000<bits.length
     ·rw[if_pos c3]at g;refine zs7 e2 e3 e6 gp ge @gV_u (zI @n1 (zI @n2 (zI @n3 (zI @n4 (zI @n5 (zI @n6 (zI @n7 (zI @B1.len @c3)))))))) ?_;exact⟨g.symm,t1⟩
     ·rw [if_neg c3] at g;refine zs7 e2 e3 e6 gp ge @gV_u (zI @n1 (zI @n2 (zI @n3 (zI @n4 (zI @n5 (zI @n6 (zI @n7 (zI @B1.len @c3)))))))) ?_;refine jae (fun j t h' => h' = h1 /\ ∃ k : Nat, (bits.take k).any (fun b => b != 0 && b != 1) = false /\ t 3 = .ptr (h.size + 1) 0 /\ t 8 = .int .i64 (k : Nat) /\ k <= bits.length /\ j = bits.length - k) (j0 := bits.length)
       ⟨rfl,0,rfl,e3,rfl,by omega,rfl⟩ ?_
      rintro j t h2 ⟨rfl,k,hb,e3,e8,hk,hj⟩;refine zs4 e3 e8 ge @B1.len ?_;refine kaf (fun d2=>?_) (fun d2=>?_)
      ·have hk':k<bits.length:=by omega
       have ld:=B1.load hk';have asx:=joa hk' (fun b=>b !=0&&b !=1);rw[hb,Bool.false_or]at asx;have zz:((bits.take (k+1)).any fun b=>b !=0&&b !=1)=true->z=true:=fun q=>by
        rw[<-z0,List.any_eq_true];rw[List.any_eq_true]at q;obtain⟨x,hx,q⟩:=q;exact⟨x,by rw[List.take_length];exact List.mem_of_mem_take hx,q⟩
       generalize bits.getD k 0=x at*;by_cases d3:x=0
       ·have asx:((bits.take (k+1)).any fun b=>b !=0&&b !=1)=false:=by rw[asx,d3];rfl
        refine zs7 e3 e8 ge @B1.idx ld @d3 @gV_u ?_;exact⟨_,⟨k+1,asx,by simp,by omega,rfl⟩,by omega⟩
       ·by_cases d4:x=1
        ·have asx:((bits.take (k+1)).any fun b=>b !=0&&b !=1)=false:=by rw[asx,d4];rfl
         have d5:¬(1:Int)=0:=by decide
         refine zs7 e3 e8 ge @B1.idx ld @d4 (zI d5 @gV_u) ?_;exact⟨_,⟨k+1,asx,by simp,by omega,rfl⟩,by omega⟩
        ·have zt:=zz (by rw[asx];simp[d3,d4]);rw[if_pos zt]at g;refine zs7 e3 e8 ge @B1.idx ld @d3 (zI @d4 @gV_u) ?_;exact⟨g.symm,t1⟩
      ·have ek:k=bits.length:=by omega
       rw[ek,z0]at hb;rw[if_neg (by rw[hb];decide)]at g;refine zs ?_;exact⟨g.symm,t1⟩
    ·have g:=g2 c2;by_cases c3:dl<0
     ·refine zs7 e2 e3 e6 gp ge @gV_u @c3 ?_;exact⟨g.symm,t1⟩
     ·refine zs7 e2 e3 e6 gp ge @gV_u @c3 ?_;refine kaa (kS _) ?_
      (repeat' (first|(refine kaf (fun _=>?_) (fun _=>?_))|(refine zs6 e2 e3 e6 gp ge @gV_u ?_)))
      all_goals first
       |exact⟨g.symm,t1⟩
       |(exfalso;omega)
 ·rw[if_neg c]at hE;subst hE;generalize p.err=E at*;obtain⟨d,o,pb,wo,mn,mx,nz,prns⟩:=p;obtain⟨prn,dl,rt,st,ph,amp,ba,bits⟩:=e;dsimp only at*;refine zf 224 B224 hC ?_;simp only[B224,zB];refine zs ?_;refine kaa (kc _ ((kac _ _).push _)) (zs1 c ?_);exact((kac _ _).push _)
theorem jjB{k s K S:Int}(hk: -K<=k/\k<=K)(hs: -S<=s/\s<=S): -(K*S)<=k*s/\k*s<=K*S:=by
 have h1:absI (k*s)<=K*S:=by
  rw[jei];exact Int.mul_le_mul (by unfold absI;omega) (by unfold absI;omega) (jaN _) (by omega)
 unfold absI at h1;omega
theorem jpe{k:Int}(hb:0<b):(if k.tmod b<0 then k.tdiv b-1 else k.tdiv b)=k/b:=by
 rcases Int.le_total 0 k with c|c
 ·rw[if_neg (by have:=Int.tmod_nonneg b c;omega),Int.tdiv_eq_ediv_of_nonneg c]
 ·obtain⟨m,rfl⟩:∃m,k= -m:=⟨-k,by omega⟩;have hm:0<=m:=by omega
  rw[Int.neg_tmod,Int.neg_tdiv,Int.tmod_eq_emod_of_nonneg hm,Int.tdiv_eq_ediv_of_nonneg hm];have h:=Int.emod_add_mul_ediv m b;have h1:=Int.emod_nonneg m (show b≠0 by omega);have h2:=Int.emod_lt_of_pos m hb;split
  ·symm;rw[Int.ediv_eq_iff_of_pos hb];have e:(-(m/b)-1)*b= -(b*(m/b))-b:=by grind
   have e2:(-(m/b)-1+1)*b= -(b*(m/b)):=by grind
   omega
  ·symm;rw[Int.ediv_eq_iff_of_pos hb];have e: -(m/b)*b= -(b*(m/b)):=by grind
   have e2:(-(m/b)+1)*b= -(b*(m/b))+b:=by grind
   omega
theorem jt2{j n:Int}:j-n*(j/n)=j% n:=by
 have:=Int.emod_add_mul_ediv j n;omega
theorem jqU(n:Int):∀(xs seen:List Int),jbi n seen xs=0->∀x∈xs,1<=x/\x<=n+2
 |[],_,_,x,hx=>by simp at hx
 | y :: xs, seen, h, x, hx => by
  rw[jbi]at h;split at h
  ·omega
  ·rename_i c;split at h
   ·omega
   ·rcases List.mem_cons.1 hx with q|q
    ·rw[q];exact Classical.not_not.1 c
    ·exact jqU n xs _ h x q
structure EmOk (p:PlanP) (e:EmitP):Prop where
 pn:p.numsOk
 en:e.numsOk p
 code:jaG p.d e.prn=0
 bits:∀x∈e.bits,x=0\/x=1
 prn:1<=e.prn/\e.prn<=lenN p.d+2
 len:e.bits.length<=10000
theorem jkC{p:PlanP}{e:EmitP}(h:emitErr p e=0):EmOk p e:=by
 unfold emitErr at h;by_cases c:p.err=0
 ·rw [if_pos c] at h;by_cases c2 : (p.prns.any fun y => e.prn == y) = true
  ·rw [if_pos c2] at h;by_cases c3 : e.numsOk p
   ·rw [if_pos c3] at h;by_cases c4 : 10000 < e.bits.length
    ·rw[if_pos c4]at h;omega
    ·rw [if_neg c4] at h;by_cases c5 : e.bits.any (fun b => b != 0 && b != 1) = true
     ·rw[if_pos c5]at h;omega
     ·have pn:=jnd c;have pz:jbi (lenN p.d) [] p.prns=0:=by
       unfold PlanP.err at c;rw[if_pos pn]at c;split at c
       ·omega
       ·split at c
        ·omega
        ·exact c
      have pr:1<=e.prn/\e.prn<=lenN p.d+2:=by
       rw[List.any_eq_true]at c2;obtain⟨x,hx,q⟩:=c2;rw[beq_iff_eq]at q;rw[q];exact jqU _ _ _ pz x hx
      refine⟨pn,c3,?_,?_,pr,by omega⟩
      ·unfold jaG;rw[if_pos ⟨pn.1,pr.1,pr.2⟩]
      ·intro x hx;have c5:=Bool.eq_false_iff.2 c5;rw[List.any_eq_false]at c5;have:=c5 x hx;simp only[Bool.and_eq_true,bne_iff_ne,ne_eq,not_and,Classical.not_not]at this;by_cases z:x=0
       ·exact .inl z
       ·exact .inr (this z)
   ·rw[if_neg c3]at h;omega
  ·rw[if_neg c2]at h;omega
 ·rw[if_neg c]at h;omega
def EmitP.sta(e:EmitP)(p:PlanP)(k:Int):Int:=stI e.dl p.size e.rt k
def EmitP.pl(e:EmitP)(p:PlanP)(n:Int):Int:=plI e.dl p.size e.rt n
theorem EmOk.den{p:PlanP}{e:EmitP}(h:EmOk p e):0<1024*p.size+e.rt:=by
 have:=jal h.pn;have:=h.en.2.1;omega
theorem EmOk.bit{p:PlanP}{e:EmitP}(h:EmOk p e)(k:Int):bitI p e k=0\/bitI p e k=1:=by
 unfold bitI;split
 ·simp
 ·rename_i c;have:=Int.emod_lt_of_pos ((k-e.ba)/p.pb) (show(0:Int)<e.bits.length by omega);have:=Int.emod_nonneg ((k-e.ba)/p.pb) (show(e.bits.length:Int)≠0 by omega);exact h.bits _ (jam (by omega))
theorem EmOk.stb{p:PlanP}{e:EmitP}(h:EmOk p e){k:Int}(hk: -20000000<=k/\k<=20000000): -200000000000<=e.sta p k/\e.sta p k<=200000000000/\(-163680000000<=k*p.size/\k*p.size<=163680000000)/\(-1280000000<=k*e.rt/\k*e.rt<=1280000000):=by
 have s:=jal h.pn;have r:=h.en.2.1;have d:=h.en.1;have a:=jjB (S:=8184) hk (show-8184<=p.size/\p.size<=8184 by omega);have b:=jjB (S:=64) hk r;unfold EmitP.sta stI;omega
theorem EmOk.plb{p:PlanP}{e:EmitP}(h:EmOk p e){n:Int}(hn: -10100000<=n/\n<=10100000): -11000000<=e.pl p n/\e.pl p n<=11000000:=by
 have s:=jal h.pn;have r:=h.en.2.1;have d:=h.en.1;unfold EmitP.pl plI;generalize hD:1024*p.size+e.rt=D;have hD2:1024<=D:=by omega
 generalize hM:1024*(n-e.dl+1)-1=M;have hM2: -(1024*11000000)<=M/\M<=1024*11000000:=by omega
 constructor
 ·rw[Int.le_ediv_iff_mul_le (by omega)];omega
 ·rw[<-Int.lt_add_one_iff,Int.ediv_lt_iff_lt_mul (by omega)];omega
def chipI(p:PlanP)(e:EmitP)(i:Int):Int:=(codeL p.d e.prn).getD (min (i/p.o) ((lenN p.d:Int)-1)).toNat 0
def atV(p:PlanP)(e:EmitP)(n:Int):Int×Int:=
 ((e.amp*chipI p e (n-e.sta p (e.pl p n))*(1-2*bitI p e (e.pl p n)))*(carP (phI e.ph e.st (e.pl p n))).1,(e.amp*chipI p e (n-e.sta p (e.pl p n))*(1-2*bitI p e (e.pl p n)))*(carP (phI e.ph e.st (e.pl p n))).2)
end Go.Ae
