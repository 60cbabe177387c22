/- Texts of the proof, part 19: a second reading of the lowered code, proved sound, and what the functions compute. -/
import Derived.Test.YtkbkpjinekcnhaaGreatP18
set_option linter.unusedSimpArgs false
set_option linter.unusedVariables false
set_option maxRecDepth 20000
set_option maxHeartbeats 4000000
namespace Go.Ae
variable {C : Ctx} {h : Heap} {v : AV} {p : PlanP} {l : List Int} {x a : Int}
theorem sq_nn(x:Int):0<=x*x:=by
 rcases Int.lt_or_le x 0 with c|c
 ·have:=Int.mul_nonneg (show 0<= -x by omega) (show 0<= -x by omega)
  rwa [Int.neg_mul_neg]at this
 ·exact Int.mul_nonneg c c
def sgK(r:Nat->Int):Nat->Int
 |0=>0
 |k+1=>sgK r k+r k
theorem jl6{f g:Nat->Int}:∀{n:Nat},(∀j,j<n->f j=g j)->sgK f n=sgK g n
 |0,_=>rfl
 |n+1,h=>by rw[sgK,sgK,jl6 (fun j hj=>h j (by omega)),h n (by omega)]
theorem jro(c:Int)(g:Nat->Int):∀n,sgK (fun k=>c*g k) n=c*sgK g n
 |0=>by simp[sgK]
 |n+1=>by rw[sgK,sgK,jro c g n,Int.mul_add]
def nrm(x y r:Int):Prop:=0<=r/\x*x+y*y<=r*r
theorem jtY{x1 y1 x2 y2 r t:Int}(h1:nrm x1 y1 r)(h2:nrm x2 y2 t):nrm (x1+x2) (y1+y2) (r+t):=by
 obtain⟨hr,h1⟩:=h1;obtain⟨ht,h2⟩:=h2;refine⟨by omega,?_⟩;have c:x1*x2+y1*y2<=r*t:=by
  rcases Int.lt_or_le (r*t) (x1*x2+y1*y2)with q|q
  ·exfalso;have rt:=Int.mul_nonneg hr ht;have a1:(x1*x1+y1*y1)*(x2*x2+y2*y2)<=(r*r)*(t*t):=Int.mul_le_mul h1 h2 (by have:=sq_nn x2;have:=sq_nn y2;omega) (Int.mul_nonneg hr hr);have a2:(x1*x1+y1*y1)*(x2*x2+y2*y2)=(x1*x2+y1*y2)*(x1*x2+y1*y2)+(x1*y2-y1*x2)*(x1*y2-y1*x2):=by grind
   have a3:=sq_nn (x1*y2-y1*x2);have a4:(r*r)*(t*t)=(r*t)*(r*t):=by grind
   generalize x1*x2+y1*y2=X at*;generalize r*t=Y at*;have a5:(Y+1)*(Y+1)<=X*X:=Int.mul_le_mul (by omega) (by omega) (by omega) (by omega);have a6:(Y+1)*(Y+1)=Y*Y+2*Y+1:=by grind
   omega
  ·exact q
 have e1:(x1+x2)*(x1+x2)+(y1+y2)*(y1+y2)=(x1*x1+y1*y1)+(x2*x2+y2*y2)+2*(x1*x2+y1*y2):=by grind
 have e2:(r+t)*(r+t)=r*r+t*t+2*(r*t):=by grind
 omega
theorem jn8{y r t:Int}(h:nrm x y r)(hr:r<=t):nrm x y t:=⟨by have:=h.1;omega,Int.le_trans h.2 (jgP h.1 hr)⟩
theorem jeX{A:List Int}{u v:Nat->Int×Int}:∀k,(∀i,i<k->u i=v i)->sumW A u k=sumW A v k
 |0,_=>rfl
 |k+1,h=>by rw[sumW,sumW,jeX k (fun i hi=>h i (by omega)),h k (by omega)]
theorem jn9(A:List Int)(u v:Nat->Int×Int):∀k,sumW A (fun i=>addP (u i) (v i)) k=addP (sumW A u k) (sumW A v k)
 |0=>rfl
 |k+1=>by
  rw[sumW,sumW,sumW,jn9 A u v k];unfold addP;refine Prod.ext ?_ ?_<;>grind
theorem joa{A:List Int}{u:Nat->Int×Int}{B:Int}(hA:one1 A)(hB:0<=B):∀k:Nat,(∀i,i<k->inS B (u i))->inS (B*k) (sumW A u k)
 |0,_=>by unfold inS sumW;simp
 |k+1,h=>by
  have ih:=joa hA hB k (fun i hi=>h i (by omega));have a:=hA.get k;have b:=h k (by omega);have m1:=mul_one (x:=(u k).1) (c:=A.getD k 0) (B:=B) (by unfold inS at b;omega) a;have m2:=mul_one (x:=(u k).2) (c:=A.getD k 0) (B:=B) (by unfold inS at b;omega) a;rw[Int.mul_comm]at m1 m2;rw[sumW];unfold inS at*;have e:B*((k+1:Nat):Int)=B*k+B:=by rw[Int.natCast_add,Int.mul_add];simp
  rw[e];dsimp only;omega
def mixV(u:Nat->Int×Int)(p:PlanP)(es:List EmitP)(a:Int):Nat->Nat->Int×Int
 |0,i=>u i
 |k+1,i=>addP (mixV u p es a k i) (atV p (es.getD k eD) (a+(i:Nat)))
theorem jjx{u:Nat->Int×Int}{p:PlanP}{es:List EmitP}{a:Int}{A:List Int}{n:Nat}{r:Nat->Int}{t:Int}(h0:nrm (sumW A u n).1 (sumW A u n).2 t)
  (hr:∀k,k<es.length->nrm (sumW A (fun i=>atV p (es.getD k eD) (a+(i:Nat))) n).1 (sumW A (fun i=>atV p (es.getD k eD) (a+(i:Nat))) n).2 (r k)):
  ∀k,k<=es.length->nrm (sumW A (mixV u p es a k) n).1 (sumW A (mixV u p es a k) n).2 (t+sgK r k)
 |0,_=>by
  have e:sumW A (mixV u p es a 0) n=sumW A u n:=jeX n (fun i _=>rfl);rw[e,sgK,Int.add_zero];exact h0
 | k + 1, hk => by
  have ih:=jjx h0 hr k (by omega);have e:sumW A (mixV u p es a (k+1)) n=addP (sumW A (mixV u p es a k) n) (sumW A (fun i=>atV p (es.getD k eD) (a+(i:Nat))) n):=by
   rw[<-jn9];exact jeX n (fun i _=>rfl)
  rw[e];have q:=jtY ih (hr k (by omega));rw[sgK,<-Int.add_assoc];exact q
theorem jtZ{e:EmitP}(ok:EmOk p e)(ha:0<=a/\a<4*p.size)(h:alB p e a=false):p.o<=a-e.sta p (e.pl p a)/\p.o<=e.sta p (e.pl p a+1)-a:=by
 have sz:=jao ok.pn;have dl:=ok.en.1;have rt:=ok.en.2.1;have l1:e.sta p (e.pl p a)<=a:=pl_le (dl:=e.dl) (n:=a) ok.den;have l2:a<e.sta p (e.pl p a+1):=pl_lt (dl:=e.dl) (n:=a) ok.den;have kd:e.pl p a=(1024*(a-e.dl+1)-1)/(1024*p.size+e.rt):=rfl;have hD:=ok.den;have b1:∀c:Int,c*(1024*p.size+e.rt)<=1024*(a-e.dl+1)-1->c<=e.pl p a:=fun c hc=>by rw[kd];exact(Int.le_ediv_iff_mul_le hD).2 hc
 have b2:∀c:Int,1024*(a-e.dl+1)-1<c*(1024*p.size+e.rt)->e.pl p a<c:=fun c hc=>by rw[kd];exact(Int.ediv_lt_iff_lt_mul hD).2 hc
 have qn:(0<=a-e.dl->Int.tdiv (a-e.dl) p.size=(a-e.dl)/p.size):=fun h=>Int.tdiv_eq_ediv_of_nonneg h;have qz:(a-e.dl<0->Int.tdiv (a-e.dl) p.size=0):=fun h=>by
  have t1:=Int.natAbs_tdiv (a-e.dl) p.size;have t2:(a-e.dl).natAbs.div p.size.natAbs=0:=Nat.div_eq_of_lt (by omega);rw[t2]at t1;omega
 have hit:∀K:Int,Int.tdiv (a-e.dl) p.size-3<=K->K<=Int.tdiv (a-e.dl) p.size+3->¬alI p e a K:=fun K h1 h2 q=>by
  unfold alB at h;have:=List.any_eq_false.1 h (K-(Int.tdiv (a-e.dl) p.size-3)).toNat (List.mem_range.2 (by omega));have e1:Int.tdiv (a-e.dl) p.size-3+((K-(Int.tdiv (a-e.dl) p.size-3)).toNat:Int)=K:=by omega
  rw[e1]at this;simp only[decide_eq_true_eq]at this;exact this q
 have rng:Int.tdiv (a-e.dl) p.size-3<=e.pl p a/\e.pl p a+1<=Int.tdiv (a-e.dl) p.size+3:=by
  rcases Int.lt_or_le (a-e.dl) 0 with c|c
  ·rw[qz c];have c1:=b1 (-2) (by omega);have c2:=b2 1 (by omega);omega
  ·rw[qn c];have d1:=Int.ediv_mul_le (a-e.dl) (show p.size≠0 by omega);have d2:=Int.lt_ediv_add_one_mul_self (a-e.dl) (show 0<p.size by omega);have d3:(a-e.dl)/p.size<4:=(Int.ediv_lt_iff_lt_mul (by omega)).2 (by omega);have d4:0<=(a-e.dl)/p.size:=Int.ediv_nonneg c (by omega);generalize (a-e.dl)/p.size=q at*;rcases(show q=0\/q=1\/q=2\/q=3 by omega)with rfl|rfl|rfl|rfl
   ·have c1:=b1 (-2) (by omega);have c2:=b2 2 (by omega);omega
   ·have c1:=b1 (-2) (by omega);have c2:=b2 3 (by omega);omega
   ·have c1:=b1 (-1) (by omega);have c2:=b2 4 (by omega);omega
   ·have c1:=b1 0 (by omega);have c2:=b2 5 (by omega);omega
 have h1:=hit _ rng.1 (by omega);have h2:=hit _ (by omega) rng.2;have e1:alI p e a (e.pl p a)↔(e.sta p (e.pl p a)-a<p.o/\a-e.sta p (e.pl p a)<p.o):=Iff.rfl;have e2:alI p e a (e.pl p a+1)↔(e.sta p (e.pl p a+1)-a<p.o/\a-e.sta p (e.pl p a+1)<p.o):=Iff.rfl;rw[e1]at h1;rw[e2]at h2;have po:=ok.pn.2.1;omega
theorem js8{q:List (Int×Int)}{c:List Int}{a:Nat}{P:Int}:∀k:Nat,a+k<=q.length->(P*(sumK q c a k).1,P*(sumK q c a k).2)=sumW c (fun i=>(P*(q.getD (a+i) (0,0)).1,P*(q.getD (a+i) (0,0)).2)) k
 |0,_=>by simp[sumK,sumW]
 | k + 1, h => by
  have ih:=js8 (q:=q) (a:=a) (P:=P) (c:=c) k (by omega);have e:atP q ((a:Int)+(k:Nat))=q.getD (a+k) (0,0):=by
   unfold atP;rw[if_neg (by omega)];congr 1
  rw[sumK,sumW,<-ih,e];unfold addP mulP;refine Prod.ext ?_ ?_<;>grind
theorem jrp{p:PlanP}{es:List EmitP}{ns:List (Int×Int)}{a:Nat}{er:Nat->Int×Int}{i:Nat}:∀k,mixV (fun i=>addP (ns.getD (a+i) (0,0)) (er i)) p es a k i=addP (scnV p es ns k (a+i)) (er i)
 |0=>rfl
 |k+1=>by
  have e:((a:Int)+(i:Nat))=((a+i:Nat):Int):=by omega
  rw[mixV,jrp k,scnV,e];unfold addP;refine Prod.ext ?_ ?_<;>grind
theorem jt0{y K H:Int}(hK:0<=K)(h:inS K (x,y))(hH:3*K<=2*H):nrm x y H:=by
 unfold inS at h;dsimp only at h;refine⟨by omega,?_⟩;have a1:∀z:Int,-K<=z->z<=K->z*z<=K*K:=fun z h1 h2=>by
  rcases Int.lt_or_le z 0 with c|c
  ·have:=jgP (x:= -z) (y:=K) (by omega) (by omega)
   rwa [Int.neg_mul_neg]at this
  ·exact jgP c h2
 have b1:=a1 x h.1.1 h.1.2;have b2:=a1 y h.2.1 h.2.2;have c1:=jgP (x:=3*K) (y:=2*H) (by omega) hH;have e1:3*K*(3*K)=9*(K*K):=by grind
 have e2:2*H*(2*H)=4*(H*H):=by grind
 have:=sq_nn K;omega
theorem jps{p:PlanP}{s prn:Int}{es:List EmitP}{nn:List (Int×Int)}{a m:Nat}(ok:PlanOk p)(hs:0<=s/\s<=30)(hin:prn∈p.prns)(eok:∀e∈es,EmOk p e)(nin:∀x∈nn,inS p.nz x)
  (hl:lostK 8 s (scnL p es nn es.length m) m=0) (ha:(a:Int)+p.size<=m) (ha4:(a:Int)<4*p.size) (al:∀e∈es,e.prn=prn->alB p e a=false)
  (hsum:sgK (fun k=>128*p.mx*sumI p.d p.o prn (es.getD k eD).prn) es.length<=128*p.mx*(sumI p.d p.o prn prn+p.oth prn)):
  (sumP (qntL 8 s (scnL p es nn es.length m)) (sampL p.d prn p.o.toNat) a).1*(sumP (qntL 8 s (scnL p es nn es.length m)) (sampL p.d prn p.o.toNat) a).1+(sumP (qntL 8 s (scnL p es nn es.length m)) (sampL p.d prn p.o.toNat) a).2*(sumP (qntL 8 s (scnL p es nn es.length m)) (sampL p.d prn p.o.toNat) a).2<=thrI p s prn*thrI p s prn:=by
 have pn:=ok.nums;have nz:=pn.2.2.2.2.2.2;have sz:=jao pn;have pw:=jdk hs;have A1:=ja5 p.d prn p.o.toNat;have Al:((sampL p.d prn p.o.toNat).length:Int)=p.size:=by rw[jbc,sz.2.2]
 have ql:(qntL 8 s (scnL p es nn es.length m)).length=m:=by unfold qntL;rw[List.length_map,jeh]
 have SK:=js8 (q:=qntL 8 s (scnL p es nn es.length m)) (c:=sampL p.d prn p.o.toNat) (a:=a) (P:=2^s.toNat) (sampL p.d prn p.o.toNat).length (by omega);have cr:0<=coarI s:=by unfold coarI;omega
 have qat:∀i,i<(sampL p.d prn p.o.toNat).length->inS (coarI s) (2^s.toNat*((qntL 8 s (scnL p es nn es.length m)).getD (a+i) (0,0)).1-(scnV p es nn es.length (a+i)).1,2^s.toNat*((qntL 8 s (scnL p es nn es.length m)).getD (a+i) (0,0)).2-(scnV p es nn es.length (a+i)).2):=by
  intro i hi;have him:a+i<m:=by omega
  have e1:(scnL p es nn es.length m).getD (a+i) (0,0)=scnV p es nn es.length (a+i):=by
   simp[scnL,List.getD_eq_getElem?_getD,him]
  have e2:(qntL 8 s (scnL p es nn es.length m)).getD (a+i) (0,0)=(lvlI 8 s (scnV p es nn es.length (a+i)).1,lvlI 8 s (scnV p es nn es.length (a+i)).2):=by
   simp[qntL,scnL,List.getD_eq_getElem?_getD,him]
  have lo:=jjw hl (a+i) him;rw[e1]at lo;rw[e2];generalize scnV p es nn es.length (a+i)=z at*;have r1:=jn6 (x:=z.1) hs;have r2:=jn6 (x:=z.2) hs;have g1:lvlI 8 s z.1=rndI z.1 s:=by
   have:=of_decide_eq_false lo.1;unfold lvlI;rw[if_neg (by omega),if_neg (by omega)]
  have g2:lvlI 8 s z.2=rndI z.2 s:=by
   have:=of_decide_eq_false lo.2;unfold lvlI;rw[if_neg (by omega),if_neg (by omega)]
  unfold inS;dsimp only;rw[g1,g2];omega
 have U0:=fun i (hi:i<(sampL p.d prn p.o.toNat).length)=>jmE (show inS p.nz (nn.getD (a+i) (0,0))by
  rcases Nat.lt_or_ge (a+i) nn.length with c|c
  ·exact nin _ (jcw c)
  ·rw[List.getD_eq_getElem?_getD,List.getElem?_eq_none c];unfold inS;simp only[Option.getD_none];omega) (qat i hi)
 have box:=joa A1 (show 0<=p.nz+coarI s by omega) (sampL p.d prn p.o.toNat).length U0;have h0:=jt0 (H:=humI p s) (Int.mul_nonneg (show 0<=p.nz+coarI s by omega) (by omega)) box (by
  unfold humI;rw[Al];have e:3*p.size*(p.nz+coarI s)=3*((p.nz+coarI s)*p.size):=by grind
  rw[e];generalize (p.nz+coarI s)*p.size=K;omega)
 have mw:=jjx (p:=p) (es:=es) (a:=(a:Int)) (r:=fun k=>128*p.mx*sumI p.d p.o prn (es.getD k eD).prn) h0 (fun k hk=>by
  have hm:es.getD k eD∈es:=by rw[List.getD_eq_getElem?_getD,List.getElem?_eq_getElem hk];exact List.getElem_mem _
  have oke:=eok _ hm;have ale:=al _ hm;generalize es.getD k eD=e at*;have w:=jpr oke (A:=sampL p.d prn p.o.toNat) Al (a:Int) (if prn=e.prn then p.o.toNat else 0) (by
   by_cases c:prn=e.prn
   ·rw[if_pos c];have nr:=jtZ oke (by omega) (ale c.symm);have po:=pn.2.1;right;omega
   ·rw[if_neg c];exact .inl rfl)
  have sr:=(jbH pn prn e.prn).1;have am:e.amp<=p.mx:=oke.en.2.2.1.2;have a0:0<=e.amp:=by
   have:=oke.en.2.2.1;have:=pn.2.2.2.2.1;omega
  have es:sumI p.d p.o prn e.prn=greatI (sampL p.d prn p.o.toNat) (sampL p.d e.prn p.o.toNat) (if prn=e.prn then p.o.toNat else 0):=rfl;rw[<-es]at w;have aS:=Int.mul_nonneg a0 sr;have le:128*(e.amp*sumI p.d p.o prn e.prn)<=128*p.mx*sumI p.d p.o prn e.prn:=by
   have:=Int.mul_le_mul_of_nonneg_right am sr;rw[Int.mul_assoc];omega
  refine jn8 (r:=128*(e.amp*sumI p.d p.o prn e.prn)) ⟨by omega,?_⟩ le;have e3:128*(e.amp*sumI p.d p.o prn e.prn)*(128*(e.amp*sumI p.d p.o prn e.prn))=16384*(e.amp*sumI p.d p.o prn e.prn*(e.amp*sumI p.d p.o prn e.prn)):=by grind
  rw[e3];exact w) es.length (Nat.le_refl _)
 have e5:sumW (sampL p.d prn p.o.toNat) (mixV (fun i=>addP (nn.getD (a+i) (0,0)) (2^s.toNat*((qntL 8 s (scnL p es nn es.length m)).getD (a+i) (0,0)).1-(scnV p es nn es.length (a+i)).1,2^s.toNat*((qntL 8 s (scnL p es nn es.length m)).getD (a+i) (0,0)).2-(scnV p es nn es.length (a+i)).2)) p es a es.length) (sampL p.d prn p.o.toNat).length=
   (2^s.toNat*(sumP (qntL 8 s (scnL p es nn es.length m)) (sampL p.d prn p.o.toNat) a).1,2^s.toNat*(sumP (qntL 8 s (scnL p es nn es.length m)) (sampL p.d prn p.o.toNat) a).2):=by
  unfold sumP;rw[SK];refine jeX _ fun i hi=>?_;rw[jrp];unfold addP;refine Prod.ext ?_ ?_<;>(dsimp only;omega)
 rw[e5]at mw;generalize sumP (qntL 8 s (scnL p es nn es.length m)) (sampL p.d prn p.o.toNat) a=X at*;have tm:=jtI ok hs prn;have fin:=jn8 mw (t:=thrI p s prn*2^s.toNat) (by unfold boundI at tm;omega);have f2:=fin.2;dsimp only at f2;generalize (2:Int)^s.toNat=P at*;generalize thrI p s prn=t at*;have e6:P*X.1*(P*X.1)+P*X.2*(P*X.2)=P*P*(X.1*X.1+X.2*X.2):=by grind
 have e7:t*P*(t*P)=P*P*(t*t):=by grind
 rw[e6,e7]at f2;exact Int.le_of_mul_le_mul_left f2 (Int.mul_pos (by omega) (by omega))
theorem jrq{p:PlanP}{l:List Int}{prn:Int}(ok:PlanOk p)(hin:prn∈p.prns):∀k,k<=p.prns.length->sgK (fun i=>sumI p.d p.o prn ((esK p l k).getD i eD).prn) (esK p l k).length<=othK (sumI p.d p.o) prn p.prns k+(if prn∈p.prns.take k then sumI p.d p.o prn prn else 0)
 |0,_=>by simp[esK,sgK,othK]
 | k + 1, hk => by
  have ih:=jrq (l:=l) ok hin k (by omega);have r0:=jbH ok.nums prn (p.prns.getD k 0);have r1:=jbH ok.nums prn prn;have tk:=jhr (l:=p.prns) (k:=k) hk;have step:othK (sumI p.d p.o) prn p.prns k+(if prn∈p.prns.take k then sumI p.d p.o prn prn else 0)+sumI p.d p.o prn (p.prns.getD k 0)<=othK (sumI p.d p.o) prn p.prns (k+1)+(if prn∈p.prns.take (k+1)then sumI p.d p.o prn prn else 0):=by
   rw[othK,tk];have nt:=jdm ok.nodup (i:=k) hk;by_cases c:p.prns.getD k 0=prn
   ·rw[c]at nt;rw[if_pos c,if_neg nt,if_pos (by rw[c];simp),c];omega
   ·rw[if_neg c];by_cases c2:prn∈p.prns.take k
    ·rw[if_pos c2,if_pos (List.mem_append_left _ c2)];omega
    ·rw[if_neg c2,if_neg (by simp only[List.mem_append,List.mem_singleton,not_or];exact⟨c2,fun q=>c q.symm⟩)];omega
  by_cases c:someOf l k 3=0
  ·have e:esK p l (k+1)=esK p l k:=if_pos c;rw[e];omega
  ·have e:esK p l (k+1)=esK p l k++[emitAt p k (cutE l k)]:=if_neg c;have e1:sgK (fun i=>sumI p.d p.o prn ((esK p l (k+1)).getD i eD).prn) (esK p l (k+1)).length=sgK (fun i=>sumI p.d p.o prn ((esK p l k).getD i eD).prn) (esK p l k).length+sumI p.d p.o prn (p.prns.getD k 0):=by
    rw[e,List.length_append,List.length_singleton,sgK];congr 1
    ·refine jl6 fun i hi=>?_;rw[List.getD_eq_getElem?_getD,List.getElem?_append_left hi,<-List.getD_eq_getElem?_getD]
    ·rw[List.getD_eq_getElem?_getD,List.getElem?_append_right (Nat.le_refl _)];simp[emitAt]
   rw[e1];omega
theorem jrr{a b c d e f g x:AV}{u:Nat}{wr:Bool}:contB 1 8 0 (some (.cells [a,b,c,d,e,f,g,x] wr u))=some (1,[a,b,c,d,e,f,g,x]):=rfl
theorem jsL{k:Nat}(h:someOf l k 3=0):esK p l (k+1)=esK p l k:=if_pos h
theorem jt1{k:Nat}(h:¬someOf l k 3=0):esK p l (k+1)=esK p l k++[emitAt p k (cutE l k)]:=if_neg h
def stE(st:Bool)(e:EmitP):EmitP:={e with rt:=if st=true then 0 else e.rt}
def esT(p:PlanP)(l:List Int)(st:Bool)(k:Nat):List EmitP:=(esK p l k).map (stE st)
theorem jt2{st:Bool}{e:EmitP}(h:emitErr p e=0):emitErr p (stE st e)=0:=by
 have n:e.numsOk p->(stE st e).numsOk p:=fun⟨a,b,c,d⟩=>by
  refine⟨a,?_,c,d⟩;unfold stE;dsimp only;split<;>omega
 unfold emitErr at h|-;split at h
 ·rename_i c;rw[if_pos c];split at h
  ·rename_i c2;rw[if_pos (show(p.prns.any fun y=>(stE st e).prn==y)=true from c2)];split at h
   ·rename_i c3;rw[if_pos (n c3)];exact h
   ·cases h
  ·cases h
 ·rename_i c;exact absurd h c
theorem jun{st:Bool}{e:EmitP}(h:e.ok64):(stE st e).ok64:=by
 obtain⟨a,b,c,r⟩:=h;refine⟨a,b,?_,r⟩;unfold stE In64 at*;dsimp only;split<;>omega
theorem jnm(p:PlanP)(l:List Int)(st:Bool)(k:Nat):(esT p l st k).length<=k:=by
 unfold esT;rw[List.length_map];exact jrj p l k
theorem js9{st:Bool}(hp:p.err=0)(pn:p.numsOk)(h64:p.ok64)(k:Nat)(hk:k<=p.prns.length):∀e∈esT p l st k,emitErr p e=0/\e.ok64/\(st=true->e.rt=0)/\∃i,i<k/\e.prn=p.prns.getD i 0:=by
 intro e he;obtain⟨y,hy,rfl⟩:=List.mem_map.1 he;obtain⟨a,b,i,c⟩:=jrl hp pn h64 k hk y hy;exact⟨jt2 a,jun b,fun q=>by unfold stE;rw[if_pos q],i,c⟩
theorem jt3(p:PlanP)(l:List Int)(st:Bool)(k:Nat):(esT p l st k).map (·.prn)=(esK p l k).map (·.prn):=by
 unfold esT;rw[List.map_map];rfl
theorem jsM{st:Bool}{k:Nat}(h:someOf l k 3=0):esT p l st (k+1)=esT p l st k:=by unfold esT;rw[jsL h]
theorem jt4{st:Bool}{k:Nat}(h:¬someOf l k 3=0):esT p l st (k+1)=esT p l st k++[stE st (emitAt p k (cutE l k))]:=by unfold esT;rw[jt1 h,List.map_append];rfl
theorem jkH(hC:Has C TA){vp vl vn:AV}{p:PlanP}{l ns:List Int}{s:Int}{m:Nat}{st:Bool}{h:Heap}(R:RI h vp p.prns)(h64:p.ok64)(hp:p.err=0)(hl:RI h vl l)(K:KnownCap vl)(hx:∀x∈l,In64 x)(hn:RI h vn ns)(hxn:∀x∈ns,In64 x)(hg:gErr 8 s=0)(hm:m<=1048576):
  ACalls C 405 [plA p vp,gA 8 s,vl,vn,.int .i64 (m:Nat),.bool st] h (fun r h'=>HSub h h'/\∃ws we,r=.tuple [ws,we,.bool (decide (lostK 8 s (scnL p (esT p l st p.prns.length) (noiL ns p.nz m) (esT p l st p.prns.length).length m) m=0))]/\
   SI h' ws (qntL 8 s (scnL p (esT p l st p.prns.length) (noiL ns p.nz m) (esT p l st p.prns.length).length m))/\EmsI h' we (esT p l st p.prns.length)/\KnownCap ws):=by
 have v1:=R.one;have pok:=jdN hp;have pn:=pok.nums;have plen:=pok.len;have hlt:=hl.lt;have L:=hl.len;have Rl:=R.len;have S:=fun(i:Nat) h1 (q:HSub h h1)=>jeI hC (i:=i) (n:=3) (hl.mono q) hx (by omega);have kE:=fun(k:Nat) (hk:k<p.prns.length) v' (B:RI h v' (cutE l k)) h1 (q:HSub h h1)=>jlW hC (w:=plA p vp) (u0:=k) (h:=h1) ⟨vp,rfl,R.mono q⟩ pn hk h64 (B.mono q) (fun x hx'=>hx x (List.mem_of_mem_drop (List.mem_of_mem_take hx')));have nz:=pn.2.2.2.2.2.2;have kN:=fun h1 (q:HSub h h1)=>jlX hC (vp:=vp) (p:=p) (h:=h1) (m:=m) v1 nz (hn.mono q) hxn hm
 have kM:=fun es nn ve vn h1 (q:HSub h h1) (EI:EmsI h1 ve es) (h65:∀k,k<es.length->(es.getD k eD).ok64) (N:SI h1 vn nn)=>jpi hC (R.mono q) h64 EI h65 N (m:=(m:Nat)) (by unfold In64;omega);have kQ:=fun v sc h1 (S:SI h1 v sc)=>jkF hC S hg;unfold gA plA at*;have q8:loadB true 8 0 (some (.cells [.int .i64 p.d,.int .i64 p.o,.int .i64 p.pb,.int .i64 p.w,.int .i64 p.mn,.int .i64 p.mx,.int .i64 p.nz,vp] true 0))=some (.agg [.int .i64 p.d,.int .i64 p.o,.int .i64 p.pb,.int .i64 p.w,.int .i64 p.mn,.int .i64 p.mx,.int .i64 p.nz,vp]):=rfl;have q7:([.int .i64 p.d,.int .i64 p.o,.int .i64 p.pb,.int .i64 p.w,.int .i64 p.mn,.int .i64 p.mx,.int .i64 p.nz,vp]:List AV)[7]? =some vp:=rfl
 have pone:([.int .i64 p.d,.int .i64 p.o,.int .i64 p.pb,.int .i64 p.w,.int .i64 p.mn,.int .i64 p.mx,.int .i64 p.nz,vp]:List AV).all AV.one=true:=by simp only[List.all_cons,List.all_nil,jfl,v1,Bool.and_self]
 generalize ([.int .i64 p.d,.int .i64 p.o,.int .i64 p.pb,.int .i64 p.w,.int .i64 p.mn,.int .i64 p.mx,.int .i64 p.nz,vp]:List AV)=pc at*;have pcp:HSub h ((h.push (.cells pc true 0)).push (.cells [.int .i64 8,.int .i64 s] true 0)):=(kac _ _).push _;have gp0:((h.push (.cells pc true 0)).push (.cells [.int .i64 8,.int .i64 s] true 0)).get h.size=some (.cells pc true 0):=by exact ze
 have gp1:((h.push (.cells pc true 0)).push (.cells [.int .i64 8,.int .i64 s] true 0)).get (h.size+1)=some (.cells [.int .i64 8,.int .i64 s] true 0):=by exact ze
 have zb:((h.push (.cells pc true 0)).push (.cells [.int .i64 8,.int .i64 s] true 0)).size=h.size+2:=by simp
 obtain⟨hb,hHb⟩:∃hb,(h.push (.cells pc true 0)).push (.cells [.int .i64 8,.int .i64 s] true 0)=hb:=⟨_,rfl⟩;rw[hHb]at pcp gp0 gp1 zb;refine zf 405 B405 hC ?_;simp only[B405,zB];refine zs1 hHb ?_;refine jae (fun j t H=>∃(k:Nat) (E:List (EmitP×AV)),E.map (·.1)=esT p l st k/\Grw hb H 8 (t 13) E.length (emC E)/\(∀q∈E,RI H q.2 q.1.bits/\∀i∈q.2.ids,i∉(t 13).ids)/\t 2=vl/\t 3=vn/\t 4=.int .i64 (m:Nat)/\t 5=.bool st/\t 6=.ptr h.size 0/\t 7=.ptr (h.size+1) 0/\t 15=.int .i64 (k:Nat)/\k<=p.prns.length/\j=p.prns.length-k) (j0:=p.prns.length)
  ⟨0,[],rfl,kaY _ _,by simp,rfl,rfl,rfl,rfl,rfl,rfl,rfl,by omega,rfl⟩ ?_
 rintro j t H ⟨k,E,hE,A,bE,e2,e3,e4,e5,e6,e7,e15,hk,hj⟩;have g0:=(A.sub.get _ (by omega)).trans gp0;have g1:=(A.sub.get _ (by omega)).trans gp1;have sH:=pcp.trans A.sub;refine zs5 e6 e15 g0 q7 Rl ?_;refine kaf (fun c=>?_) (fun c=>?_)
 ·have hk':k<p.prns.length:=by omega
  have Sk:=S k H sH;have lenE:E.length<=k:=by rw[<-List.length_map (f:=(·.1)),hE];exact jnm _ _ _ _
  have ePart:=kbI (k1:=.i64) (k2:=.i64) hl K (a:=min l.length (3+20*k)) (b:=min l.length (min l.length (3+20*k)+20)) (by omega);obtain⟨vc,sc,Bc⟩:=ePart;have ea:((min l.length (3+20*k):Nat):Int)=min (l.length:Int) (3+20*(k:Int)):=by omega
  have ec:((min l.length (min l.length (3+20*k)+20):Nat):Int)=min (l.length:Int) (min (l.length:Int) (3+20*(k:Int))+20):=by omega
  rw[ea,ec]at sc;have kk:=fun h1 q=>kE k hk' vc Bc h1 q;refine zs2 e2 e15 ?_;refine kaa Sk (zs ?_);refine kaf (fun c1=>?_) (fun c1=>?_)
  ·refine zs1 e15 ?_;refine⟨_,⟨k+1,E,?_,A,bE,e2,e3,e4,e5,e6,e7,rfl,by omega,rfl⟩,by omega⟩;exact hE.trans (jsM c1).symm
  ·refine zs7 e2 e6 e15 L g0 q8 (zI sc @Heap.wf) ?_;refine kad (kk _ (zh sH)) ?_;rintro r h3 ⟨s3,vb,rfl,B,fr⟩;have z3:=s3.size;simp only[Heap.size_reserve]at z3 fr;have hbig:∀i,H.size<=i->H.get i=none:=fun i hi=>by
    cases q:H.get i with
    |none=>rfl
    |some b=>have:=kab q;omega
   have gN11:h3.get (H.size+11)=none:=(s3.get _ (by simp only[Heap.size_reserve];omega)).trans ((Heap.get_reserve _ _ _).trans (hbig _ (by omega)));have o1:=B.one;have h3e:∀i,i<H.size->h3.get i=H.get i:=fun i hi=>(s3.get _ (by simp only[Heap.size_reserve];omega)).trans (Heap.get_reserve _ _ _);have hadd:=jt4 (p:=p) (l:=l) (st:=st) c1;generalize emitAt p k (cutE l k)=e at*;have hv:∀i∈(t 13).ids,i<H.size:=fun i hi=>(A.ids_lt i hi).2;have fin:∀(Z:Heap) (gZ:∀j,j≠H.size+11->j<h3.size->Z.get j=h3.get j) (zZ:h3.size<=Z.size) (b:Bool) (hb2:st=b) (Ac:Grw hb (snocH Z none (t 13) 8 (emC (E++[(stE b e,vb)]))) 8 (.slice Z.size 0 (E.length+1) (.unk 0)) (E.length+1) (emC (E++[(stE b e,vb)]))),
     (E++[(stE b e,vb)]).map (·.1)=esT p l st (k+1)/\Grw hb (snocH Z none (t 13) 8 (emC (E++[(stE b e,vb)]))) 8 (.slice Z.size 0 (E.length+1) (.unk 0)) (E++[(stE b e,vb)]).length (emC (E++[(stE b e,vb)]))/\
     ∀q∈E++[(stE b e,vb)],RI (snocH Z none (t 13) 8 (emC (E++[(stE b e,vb)]))) q.2 q.1.bits/\∀i∈q.2.ids,i∉(AV.slice Z.size 0 (E.length+1) (.unk 0)).ids:=by
    intro Z gZ zZ b hb2 Ac;subst hb2;refine⟨by rw[List.map_append,hE,hadd];rfl,by rw[List.length_append];exact Ac,fun q hq=>?_⟩;rcases List.mem_append.1 hq with hq|hq
    ·obtain⟨b1,b2⟩:=bE q hq;have b3:=b1.lt_ids;refine⟨b1.off fun i hi=>(jn5 (by have:=b3 i hi;omega) (b2 i hi)).trans ((gZ i (by have:=b3 i hi;omega) (by have:=b3 i hi;omega)).trans (h3e i (b3 i hi))),fun i hi q=>?_⟩;simp only[AV.ids,List.mem_singleton]at q;have:=b3 i hi;omega
    ·rw[List.mem_singleton]at hq;subst hq;have b3:=B.lt_ids;refine⟨B.off fun i hi=>(jn5 (by have:=b3 i hi;omega) (fun q=>by have:=fr i hi;have:=hv i q;omega)).trans (gZ i (by have:=fr i hi;omega) (b3 i hi)),fun i hi q=>?_⟩;simp only[AV.ids,List.mem_singleton]at q;have:=b3 i hi;omega
   refine zs2 e5 gN11 ?_;refine kaf (fun c2=>?_) (fun c2=>?_)
   ·subst c2;refine zs2 @cont_slice @jrr ?_;refine ka0 (fun Z hZ=>?_);have zZ:h3.size<=Z.size:=by rw[hZ];refine zs ?_;omega
    have gZ:∀j,j≠H.size+11->j<h3.size->Z.get j=h3.get j:=fun j hj hj2=>by rw[hZ];exact ze
    have hsZ:HSub H Z:=⟨by omega,fun i hi=>(gZ i (by omega) (by omega)).trans (h3e i hi)⟩;clear hZ;have ap:=kaP (H:=Z) (bytes:=72) (m:=1) (news:=[.int .i64 e.prn,.int .i64 e.dl,.int .i64 0,.int .u32 e.st,.int .u32 e.ph,.int .i64 e.amp,.int .i64 e.ba,vb]) A hsZ (by decide) (by omega) (by simp only[List.all_cons,List.all_nil,jfl,o1,Bool.and_self]);have Ac:=kaH (m:=1) (news:=[.int .i64 e.prn,.int .i64 e.dl,.int .i64 0,.int .u32 e.st,.int .u32 e.ph,.int .i64 e.amp,.int .i64 e.ba,vb]) A hsZ rfl (by omega);have eE:emC E++[.int .i64 e.prn,.int .i64 e.dl,.int .i64 0,.int .u32 e.st,.int .u32 e.ph,.int .i64 e.amp,.int .i64 e.ba,vb]=emC (E++[(stE true e,vb)]):=(jn2 E (stE true e,vb)).symm
    rw[eE]at ap Ac;have fin:=fin Z gZ zZ true rfl Ac;refine zs2 ap e15 ?_;refine⟨_,⟨k+1,_,fin.1,fin.2.1,fin.2.2,e2,e3,e4,e5,e6,e7,rfl,by omega,rfl⟩,by omega⟩
   ·have c2:st=false:=by simpa using c2
    subst c2;refine zs2 @cont_slice @jrr ?_;refine ka0 (fun Z hZ=>?_);have zZ:h3.size<=Z.size:=by rw[hZ];refine zs ?_;omega
    have gZ:∀j,j≠H.size+11->j<h3.size->Z.get j=h3.get j:=fun j hj hj2=>by rw[hZ];exact ze
    have hsZ:HSub H Z:=⟨by omega,fun i hi=>(gZ i (by omega) (by omega)).trans (h3e i hi)⟩;clear hZ;have ap:=kaP (H:=Z) (bytes:=72) (m:=1) (news:=[.int .i64 e.prn,.int .i64 e.dl,.int .i64 e.rt,.int .u32 e.st,.int .u32 e.ph,.int .i64 e.amp,.int .i64 e.ba,vb]) A hsZ (by decide) (by omega) (by simp only[List.all_cons,List.all_nil,jfl,o1,Bool.and_self]);have Ac:=kaH (m:=1) (news:=[.int .i64 e.prn,.int .i64 e.dl,.int .i64 e.rt,.int .u32 e.st,.int .u32 e.ph,.int .i64 e.amp,.int .i64 e.ba,vb]) A hsZ rfl (by omega);have eE:emC E++[.int .i64 e.prn,.int .i64 e.dl,.int .i64 e.rt,.int .u32 e.st,.int .u32 e.ph,.int .i64 e.amp,.int .i64 e.ba,vb]=emC (E++[(stE false e,vb)]):=(jn2 E (stE false e,vb)).symm
    rw[eE]at ap Ac;have fin:=fin Z gZ zZ false rfl Ac;refine zs2 ap e15 ?_;refine⟨_,⟨k+1,_,fin.1,fin.2.1,fin.2.2,e2,e3,e4,e5,e6,e7,rfl,by omega,rfl⟩,by omega⟩
 ·obtain rfl:k=p.prns.length:=by omega
  have lenE:E.length=(esT p l st p.prns.length).length:=by rw[<-hE,List.length_map]
  have es8:=jnm p l st p.prns.length;have EI:EmsI H (t 13) (esT p l st p.prns.length):=⟨E,hE,A.sl,fun q hq=>(bE q hq).1⟩;have eok:=js9 (l:=l) (st:=st) hp pn h64 p.prns.length (Nat.le_refl _);have end1:=js6 (l:=l) pok.nodup hp pn h64 p.prns.length (Nat.le_refl _);rw[<-jt3 p l st]at end1;generalize esT p l st p.prns.length=es at*;have nl:=jiD ns p.nz m;have nin:=jrg (l:=ns) (z:=p.nz) nz.1 (k:=m);generalize noiL ns p.nz m=nn at*;have mz:jbN p es nn (m:Nat)=0:=jl3 hp (by omega) (fun e he=>(eok e he).1) end1 (by omega) (by omega) nin;have kM:=fun vn h1 (q:HSub H h1) (N:SI h1 vn nn)=>kM es nn (t 13) vn h1 (sH.trans q) (EI.mono q) (fun k hk=>(eok _ (by rw[List.getD_eq_getElem?_getD,List.getElem?_eq_getElem hk];exact List.getElem_mem _)).2.1) N
  rw[mz,if_pos rfl,Int.toNat_natCast]at kM;have sl:=jeh (p:=p) (es:=es) (ns:=nn) (k:=es.length) (m:=m);have sin:∀x∈scnL p es nn es.length m,inQ x.1/\inQ x.2:=by
   intro x hx;obtain⟨i,_,rfl⟩:=List.mem_map.1 hx;have:=jni pn nin es.length i (fun k hk=>jkm (eok _ (by rw[List.getD_eq_getElem?_getD,List.getElem?_eq_getElem hk];exact List.getElem_mem _)).1);unfold inS at this;unfold inQ;omega
  generalize scnL p es nn es.length m=sc at*;have kQ:=fun v h1 (S:SI h1 v sc)=>kQ v sc h1 S (by omega) sin;refine zs5 e3 e4 e6 g0 q8 ?_;refine kad (kN _ sH) ?_;rintro wn h4 ⟨s4,N⟩;have g04:=(s4.get _ (kab g0)).trans g0;have g14:=(s4.get _ (kab g1)).trans g1;refine zs5 e3 e4 e6 g04 q8 ?_;refine⟨g0.symm,kad (kM wn h4 s4 N) ?_⟩;rintro r h5 ⟨w,rfl,s5,W,fw⟩;have g15:=(s5.get _ (kab g14)).trans g14;have qg:loadB true 2 0 (some (.cells [.int .i64 8,.int .i64 s] true 0))=some (.agg [.int .i64 8,.int .i64 s]):=rfl;refine zs4 @jai.eq_1 e7 g15 qg ?_;refine kad (kQ w h5 W) ?_
  rintro r h6 ⟨s6,wq,rfl,Q,Kq⟩;have q1:=Q.one;refine zs ?_;have sub6:=(s4.trans s5).trans s6;have pu:=kac h6 (.cells [wq,AV.int IntKind.i64 (lostK 8 s sc sc.length)] true 0);exact⟨(sH.trans sub6).trans pu,wq,t 13,by rw[sl],Q.mono pu,EI.mono (sub6.trans pu),.inr Kq⟩
def smallOf(l:List Int):PlanP:=⟨min (5+someOf l 0 3) 6,min (1+someOf l 1 3) 2,1+someOf l 2 3,2,10+someOf l 3 20,10+someOf l 3 20+someOf l 5 3,someOf l 4 200,if someOf l 8 3=0 then[1+someOf l 6 30,1+someOf l 6 30+2]else[1+someOf l 6 30]⟩
theorem jeY(l:List Int):(smallOf l).numsOk/\(smallOf l).o<=2/\((smallOf l).d=5\/(smallOf l).d=6):=by
 have h0:=jah (l:=l) (i:=0) (n:=3) (by omega);have h1:=jah (l:=l) (i:=1) (n:=3) (by omega);have h2:=jah (l:=l) (i:=2) (n:=3) (by omega);have h3:=jah (l:=l) (i:=3) (n:=20) (by omega);have h4:=jah (l:=l) (i:=4) (n:=200) (by omega);have h5:=jah (l:=l) (i:=5) (n:=3) (by omega);unfold PlanP.numsOk smallOf;dsimp only;refine⟨⟨?_,by omega,by omega,by omega,by omega,by omega,by omega⟩,by omega,by omega⟩;rcases(show min (5+someOf l 0 3) 6=5\/min (5+someOf l 0 3) 6=6 by omega)with e|e<;>rw[e]<;>decide
theorem jjy(l:List Int):(smallOf l).prns=[1+someOf l 6 30]\/(smallOf l).prns=[1+someOf l 6 30,1+someOf l 6 30+2]:=by
 unfold smallOf;dsimp only;split
 ·exact .inr rfl
 ·exact .inl rfl
theorem jrs(l:List Int):(smallOf l).err=0:=by
 have h6:=jah (l:=l) (i:=6) (n:=30) (by omega);have hn:=(jeY l).1;have l31:31<=lenN (smallOf l).d:=by
  have hc:=(jeY l).2.2;generalize (smallOf l).d=d at*;rcases hc with e|e<;>rw[e]<;>decide
 unfold PlanP.err;rw[if_pos hn];rcases jjy l with e|e
 ·rw[e,if_neg (by simp),if_neg (by simp)];rw[jbi,if_neg (by omega),if_neg (by simp),jbi]
 ·rw[e,if_neg (by simp),if_neg (by simp)];rw[jbi,if_neg (by omega),if_neg (by simp),jbi,if_neg (by omega),if_neg (by simp;omega),jbi]
theorem jsN(l:List Int):(smallOf l).ok64:=by
 have h6:=jah (l:=l) (i:=6) (n:=30) (by omega);have hn:=(jeY l).1;obtain⟨n1,n2,n3,n4,n5,n6,n7⟩:=hn;have hd:=(jeY l).2.2;have hp:=jjy l;refine⟨?_,?_,?_,?_,?_,?_,?_,fun x hx=>?_⟩;all_goals first
  |(unfold In64;omega)
  |skip
 unfold In64;rcases hp with e|e<;>rw[e]at hx<;>simp only[List.mem_cons,List.not_mem_nil,or_false]at hx<;>omega
theorem jrt(hC:Has C TA)(hl:RI h v l)(hx:∀x∈l,In64 x):ACalls C 328 [v] h (fun r h'=>HSub h h'/\∃vp i,r=plA (jeK l) vp/\h.size<=i/\((vp=.slice i 0 1 (.known 1)/\(jeK l).prns=[1+someOf l 6 30]/\h'.get i=some (.cells (ints [1+someOf l 6 30]) true 0))\/(vp=.slice i 0 2 (.unk 0)/\(jeK l).prns=[1+someOf l 6 30,1+someOf l 6 30+2]/\h'.get i=some (.cells (ints [1+someOf l 6 30,1+someOf l 6 30+2]) true 1)))):=by
 have hlt:=hl.lt;have S:=fun(i:Nat) (n:Int) (hn:1<=n/\n<=9223372036854775807) h1 (q:HSub h h1)=>jeI hC (i:=i) (hl.mono q) hx hn;have h0:=jah (l:=l) (i:=0) (n:=3) (by omega);have h1:=jah (l:=l) (i:=1) (n:=3) (by omega);have h2:=jah (l:=l) (i:=2) (n:=3) (by omega);have h3:=jah (l:=l) (i:=3) (n:=20) (by omega);have h4:=jah (l:=l) (i:=4) (n:=200) (by omega);have h5:=jah (l:=l) (i:=5) (n:=3) (by omega);have h6:=jah (l:=l) (i:=6) (n:=30) (by omega);have h7:=jah (l:=l) (i:=7) (n:=2) (by omega);unfold plA jeK;dsimp only
 have S0:=S 0 3 (by omega);have S1:=S 1 3 (by omega);have S2:=S 2 3 (by omega);have S3:=S 3 20 (by omega);have S4:=S 4 200 (by omega);have S5:=S 5 3 (by omega);have S6:=S 6 30 (by omega);have S7:=S 7 2 (by omega);generalize someOf l 0 3=a0 at*;generalize someOf l 1 3=a1 at*;generalize someOf l 2 3=a2 at*;generalize someOf l 3 20=a3 at*;generalize someOf l 4 200=a4 at*;generalize someOf l 5 3=a5 at*;generalize someOf l 6 30=a6 at*;generalize someOf l 7 2=a7 at*;have D:=fun h1=>jne (h:=h1) hC (x:=a0) (by unfold In64;omega);have ed:a0% 3=a0:=by omega
 rw[ed]at D;generalize hP:(if a0=2/\a7=1 then[1+a6,1+a6+2]else[1+a6])=P;refine zf 328 B328 hC ?_;simp only[B328,zB];refine zs ?_;refine kaa (S0 _ zr) (zs ?_);refine kaa (D _) (zs ?_);refine kaa (S1 _ zr) (zs ?_);refine kaa (S2 _ zr) (zs ?_);refine kaa (S3 _ zr) (zs ?_);refine kaa (S4 _ zr) (zs ?_);refine kaa (S5 _ zr) (zs ?_);refine kaa (S6 _ zr) (zs ?_);by_cases c:a0=2
 ·have c5:5+a0=7:=by omega
  refine zs1 c5 ?_;refine kaa (S7 _ zr) ?_;by_cases c7:a7=1
  ·rw[if_pos ⟨c,c7⟩]at hP;subst hP;refine zs5 c7 @Heap.wf @cont_slice @contB_one @jkB ?_;exact⟨zr,_,_,by rw[c5],by omega,.inr ⟨rfl,by refine zs ?_;rfl⟩⟩
  ·rw[if_neg (fun q=>c7 q.2)]at hP;subst hP;refine zs1 c7 ?_;exact⟨zr,_,_,by rw[c5],by omega,.inl ⟨rfl,by refine zs ?_;rfl⟩⟩
 ·rw[if_neg (fun q=>c q.1)]at hP;subst hP;have c5:¬5+a0=7:=by omega
  refine zs1 c5 ?_;exact⟨zr,_,_,rfl,by omega,.inl ⟨rfl,by refine zs ?_;rfl⟩⟩
theorem jkI(hC:Has C TA)(hl:RI h v l)(hx:∀x∈l,In64 x):ACalls C 404 [v] h (fun r h'=>HSub h h'/\∃vp,r=plA (smallOf l) vp/\RI h' vp (smallOf l).prns):=by
 have h0:=jah (l:=l) (i:=0) (n:=3) (by omega);have h1:=jah (l:=l) (i:=1) (n:=3) (by omega);have h6:=jah (l:=l) (i:=6) (n:=30) (by omega);have S8:=fun H (q:HSub h H)=>jeI hC (h:=H) (i:=8) (n:=3) (hl.mono q) hx (by omega);have kQ:=fun H (q:HSub h H)=>jrt hC (h:=H) (hl.mono q) hx;have qp:=jpo l;unfold plA jeK at kQ;unfold plA smallOf;dsimp only at kQ|-;have lo:=hl.one;generalize someOf l 6 30=a6 at*;generalize someOf l 0 3=a0 at*;generalize someOf l 1 3=a1 at*;generalize someOf l 8 3=a8 at*;have gr:∀(H:Heap) (k:Nat),H.get k=some (.cells [.int .i64 (1+a6),.int .i64 (1+a6+2)] true 1)->RI H (.slice k 0 2 (.unk 0)) [1+a6,1+a6+2]:=fun H k g=>(show GrwI kaZ H (.slice k 0 2 (.unk 0)) [1+a6,1+a6+2]from⟨⟨Nat.zero_le _,fun i hi=>absurd hi (Nat.not_lt_zero i)⟩,by simp[ints],by simp,.inr ⟨k,[],Nat.zero_le _,rfl,by rw[List.append_nil];exact g⟩⟩).ri
 generalize hP:(if a8=0 then[1+a6,1+a6+2]else[1+a6])=P;refine zf 404 B404 hC ?_;simp only[B404,zB];refine zs ?_;refine kad (kQ _ zr) ?_;rintro r h1 ⟨s1,vp,i,rfl,hi,hcase⟩;have z1:=s1.size;simp only[Heap.size_push]at z1 hi;have g2:=s1.get h.size (by simp);rw[get_push_eq rfl]at g2;have t1:=(kac h (.cells [.int .i64 0,.int .i64 0,.int .i64 0,.int .i64 0,.int .i64 0,.int .i64 0,.int .i64 0,.nilslice] true 0)).trans s1;rcases hcase with⟨rfl,_,gi⟩|⟨rfl,_,gi⟩
 ·have li:=kab gi;have sl:∀H,jaN H 1 (.slice i 0 1 (.known 1)) none (some (.int .i64 1)) none=some (.slice i 0 1 (.known 1)):=fun H=>rfl;refine zs1 sl ?_;by_cases c8:a8=0
  ·refine kaa (S8 _ (zh t1)) ?_;rw[if_pos c8]at hP;subst hP;refine zs7 @c8 gi @cont_slice @contB_one @jkB @appKB_grow (zI @Heap.wf g2) ?_;exact⟨(zh t1),_,rfl,gr _ _ (by refine zs ?_;rfl)⟩
  ·refine kaa (S8 _ (zh t1)) ?_;rw[if_neg c8]at hP;subst hP;refine zs2 @c8 g2 ?_;exact⟨(zh t1),_,rfl,kah (l:=[1+a6]) (wr:=true) (u:=0) (by exact ze1 gi) ⟨rfl,by simp⟩ (Nat.le_refl _)⟩
 ·have li:=kab gi;have sl:∀b,jaN (h1.push b) 1 (.slice i 0 2 (.unk 0)) none (some (.int .i64 1)) none=some (.slice i 0 1 (.unk 0)):=fun b=>by
   have g:(h1.push b).get i=some (.cells (ints [1+a6,1+a6+2]) true 1):=(get_push_lt li).trans gi;simp only[jaN,g];rfl
  have uB:∀(H:Heap) (k:Nat),H.get k=none->k<H.size->appUB H (some k) 1 8 i 0 1 0 1 [.int .i64 (1+a6+2)] (some (.cells (ints [1+a6,1+a6+2]) true 1))=some (.slice k 0 2 (.unk 0),(H.put i .dead).put k (.cells (ints [1+a6,1+a6+2]) true 1)):=fun H k g l=>by
   have r:H.room (some k)=true:=by simp[Heap.room,g,l]
   exact if_pos ⟨rfl,rfl,by simp[ints],rfl,by omega,r,by omega⟩
  have gn:∀b b2,(((h1.push b).reserve 11).put (h1.size+1+7) b2).get (h1.size+1+8)=none:=fun b b2=>by
   rw[get_put_ne (by omega),Heap.get_reserve,kap,if_neg (by omega)];exact h1.wf _ (by omega)
  have gl:∀b b2,h1.size+1+8<(((h1.push b).reserve 11).put (h1.size+1+7) b2).size:=fun b b2=>by
   simp only[Heap.size_put,Heap.size_reserve,Heap.size_push];omega
  have R2:∀H:Heap,H.get i=some (.cells (ints [1+a6,1+a6+2]) true 1)->RI H (.slice i 0 1 (.unk 0)) [1+a6]:=fun H g=>by
   obtain⟨v',e,R⟩:=SL.takeK (kk:=.i64) (gr H i g) (k:=1) (by simp);have e':=e H (kag H);have e2:jaN H 1 (.slice i 0 2 (.unk 0)) none (some (.int .i64 1)) none=some (.slice i 0 1 (.unk 0)):=by
    simp only[jaN,g];rfl
   rw[show(.int .i64 ((1:Nat):Int):AV)=.int .i64 1 from rfl,e2]at e';cases e';exact R
  refine zs1 sl ?_;by_cases c8:a8=0
  ·refine kaa (S8 _ (zh t1)) ?_;rw[if_pos c8]at hP;subst hP;simp-implicitDefEqProofs (disch:=first|exact zd|fail) only[↓wpPre,jbv,jbw,Int.reduceToNat,Int.reducePow,Int.reduceMul,Int.reduceAdd,Int.reduceSub,Int.reduceNeg,Nat.reduceAdd,Nat.reduceMul,Nat.reducePow,Int.reduceLT,Int.reduceLE,Int.reduceEq,Nat.reduceEqDiff,c8,gi,cont_slice,contB_one,jkB,appKB_grow,appUB_grow,app_unk,uB _ _ (gn _ _) (gl _ _),Heap.wf,g2];exact⟨(zh t1),_,rfl,gr _ _ (by refine zs ?_;rfl)⟩
  ·refine kaa (S8 _ (zh t1)) ?_;rw[if_neg c8]at hP;subst hP;refine zs2 @c8 g2 ?_;exact⟨(zh t1),_,rfl,R2 _ (by exact ze1 gi)⟩
theorem jta{s:List (Int×Int)}{c:List Int}{a w T:Int}:∀M:Nat,(∀k,k<M->wpI s c (a+(k:Nat)*w)<=T)->pwK s c a w M<=T*(M:Int)
 |0,_=>by unfold pwK;simp
 |M+1,h=>by
  have ih:=jta M (fun k hk=>h k (by omega));have:=h M (by omega);have e:T*((M+1:Nat):Int)=T*(M:Int)+T:=by rw[Int.natCast_add,Int.mul_add];simp
  unfold pwK;omega
theorem jl7{p:PlanP}{es:List EmitP}{Q:List (Int×Int)}{prn thr:Int}{n m b M:Nat}(A:AcOk p Q prn)(hn:p.size=(n:Nat))(hm:4*n<=m)(hb:b<n)(hM:M<=3)
  (det:∀a:Nat,(a:Int)+p.size<=m->(a:Int)<4*p.size->(∀e∈es,e.prn=prn->alB p e a=false)->(sumP Q (sampL p.d prn p.o.toNat) a).1*(sumP Q (sampL p.d prn p.o.toNat) a).1+(sumP Q (sampL p.d prn p.o.toNat) a).2*(sumP Q (sampL p.d prn p.o.toNat) a).2<=thr*thr)
  (al:∀w,w<M->∀e∈es,e.prn=prn->alB p e ((b:Int)+(w:Nat)*(n:Nat))=false):claimB thr (pwK Q (sampL p.d prn p.o.toNat) (b:Nat) p.size M) M=false:=by
 unfold claimB;rw[decide_eq_false_iff_not,Int.not_lt];refine jta M fun w hw=>?_;have w2:w*n<=2*n:=Nat.mul_le_mul_right n (by omega);have ea:((b:Int)+(w:Nat)*p.size)=((b+w*n:Nat):Int):=by rw[hn,Int.natCast_add,Int.natCast_mul]
 have q:=(jko (A.win ((b:Int)+(w:Nat)*p.size))).1;unfold wpI;rw[q,ea];refine det _ (by rw[hn];omega) (by rw[hn];omega) fun e he hp=>?_;have:=al w hw e he hp;rw[hn]at ea;rw[<-ea];exact this
theorem jsO{p:PlanP}{Q:List (Int×Int)}{s prn:Int}{n:Nat}{M:Nat}(pe:p.err=0)(gz:gErr 8 s=0)(hin:prn∈p.prns)(hn:p.size=(n:Nat))(hl:5*n<=Q.length/\Q.length<=1048576)(hs:∀x∈Q,inS 127 x)(hM:1<=M/\M<=3):
  jcN p 8 s Q prn 0 (M:Nat)=0/\jfw p Q prn 0 (M:Nat)=0/\AcOk p Q prn\/¬p.ok64:=by
 by_cases p64:p.ok64
 ·left;have c:codeE p prn=0:=if_pos hin;have e1:sampE Q=0:=by
   unfold sampE;rw[if_neg (by omega),if_pos hs]
  have e2:placE 0 (M:Nat)=0:=by
   unfold placE;rw[if_neg (by omega)]
  have mn:M*n<=3*n:=Nat.mul_le_mul_right n hM.2;have e3:fitB Q p 0 (M:Nat)=true:=by
   unfold fitB;rw[decide_eq_true_eq,hn,<-Int.natCast_mul];omega
  refine⟨?_,?_,(jgK p64 pe c e1 e2).1⟩
  ·unfold jcN;rw[pe,gz,c,e1,e2,e3];rfl
  ·unfold jfw;rw[pe,c,e1,e2,e3];rfl
 ·right;exact p64
theorem AcquireProves_law(hC:Has C TA){vl ve vn:AV}{l em no:List Int}{shift which many:Int}{h:Heap}(Rl:RI h vl l)(Re:RI h ve em)(Rn:RI h vn no)(i1:In64 shift)(i2:In64 which)(i3:In64 many)(hxl:∀x∈l,In64 x)(hxe:∀x∈em,In64 x)(hxn:∀x∈no,In64 x)(K:KnownCap ve):
  ACalls C.main0 394 [vl,ve,vn,.int .i64 shift,.int .i64 which,.int .i64 many] h (fun r _=>r=.bool true):=by
 have hM:Has C.main0 TA:=hC.main0;have p64:=jsN l;have pe:=jrs l;have ok:=jdN pe;have sz:=jao ok.nums;have kA:=jgM hC (h:=h);have kS:=fun H (q:HSub h H)=>jkI hM (h:=H) (Rl.mono q) hxl;have nE:∃n:Nat,(smallOf l).size=(n:Int):=⟨_,(Int.toNat_of_nonneg (by omega)).symm⟩;obtain⟨n,hn⟩:=nE;have kz:=fun vp H (v1:vp.one=true)=>jcK hM (h:=H) (vp:=vp) ok.nums v1;have T6:=fun H=>jcG (h:=H) (x:=shift) (n:=6) hM i1 (by omega);have T3:=fun H=>jcG (h:=H) (x:=many) (n:=3) hM i3 (by omega);have TL:=fun H=>jcG (h:=H) (x:=which) (n:=((smallOf l).prns.length:Int)) hM i2 (by have:=ok.len;omega)
 have r6:=Int.emod_nonneg shift (show(6:Int)≠0 by decide);have r6':=Int.emod_lt_of_pos shift (show(0:Int)<6 by decide);have gz:gErr 8 (4+shift% 6)=0:=by unfold gErr;rw[if_pos (by omega)]
 have hs:0<=4+shift% 6/\4+shift% 6<=30:=by omega
 have jE:∃j:Nat,which% ((smallOf l).prns.length:Int)=(j:Nat)/\j<(smallOf l).prns.length:=by
  have l1:=ok.len;have m1:=Int.emod_nonneg which (show((smallOf l).prns.length:Int)≠0 by omega);have m2:=Int.emod_lt_of_pos which (show(0:Int)<(smallOf l).prns.length by omega);exact⟨(which% ((smallOf l).prns.length:Int)).toNat,by omega,by omega⟩
 obtain⟨j,hj,hjl⟩:=jE;rw[hj]at TL;have mE:∃M:Nat,1+many% 3=(M:Nat)/\1<=M/\M<=3:=by
  have m1:=Int.emod_nonneg many (show(3:Int)≠0 by decide);have m2:=Int.emod_lt_of_pos many (show(0:Int)<3 by decide);exact⟨(1+many% 3).toNat,by omega,by omega,by omega⟩
 obtain⟨M,hMe,hM3⟩:=mE;have m3:=Int.emod_nonneg many (show(3:Int)≠0 by decide);have m3':=Int.emod_lt_of_pos many (show(0:Int)<3 by decide);have hin:(smallOf l).prns.getD j 0∈(smallOf l).prns:=jap hjl;have kC:=fun vp H (R:RI H vp (smallOf l).prns) (q:HSub h H)=>jkH hM (st:=false) R p64 pe (Re.mono q) K hxe (Rn.mono q) hxn gz (show 5*n<=1048576 by omega);have m5:((5*n:Nat):Int)=5*(n:Int):=by omega
 have eok:∀e∈esT (smallOf l) em false (smallOf l).prns.length,EmOk (smallOf l) e:=fun e he=>jkm (js9 pe ok.nums p64 _ (Nat.le_refl _) e he).1;have es8:=jnm (smallOf l) em false (smallOf l).prns.length;have ol:=ok.len;have esum:=jrq (l:=em) ok hin (smallOf l).prns.length (Nat.le_refl _);rw[List.take_length,if_pos hin]at esum;have eT:esT (smallOf l) em false (smallOf l).prns.length=esK (smallOf l) em (smallOf l).prns.length:=by
  unfold esT;rw[show stE false=id from funext fun e=>rfl,List.map_id]
 rw[<-eT]at esum;generalize esT (smallOf l) em false (smallOf l).prns.length=es at*;clear eT;have nin:=jrg (l:=no) (z:=(smallOf l).nz) ok.nums.2.2.2.2.2.2.1 (k:=5*n);have det:=fun(a:Nat) (c1:lostK 8 (4+shift% 6) (scnL (smallOf l) es (noiL no (smallOf l).nz (5*n)) es.length (5*n)) (5*n)=0) (ha:(a:Int)+(smallOf l).size<=(5*n:Nat)) (ha4:(a:Int)<4*(smallOf l).size) (al:∀e∈es,e.prn=(smallOf l).prns.getD j 0->alB (smallOf l) e a=false)=>jps ok hs hin eok nin c1 ha ha4 al (by rw[jro];exact Int.mul_le_mul_of_nonneg_left (by unfold PlanP.oth;omega) (by have:=ok.nums.2.2.2.2;omega))
 have ql:(qntL 8 (4+shift% 6) (scnL (smallOf l) es (noiL no (smallOf l).nz (5*n)) es.length (5*n))).length=5*n:=by unfold qntL;rw[List.length_map,jeh]
 have qin:∀x∈qntL 8 (4+shift% 6) (scnL (smallOf l) es (noiL no (smallOf l).nz (5*n)) es.length (5*n)),inS 127 x:=fun x hx=>by
  obtain⟨y,_,rfl⟩:=List.mem_map.1 hx;have tv:∀z:Int,-127<=lvlI 8 (4+shift% 6) z/\lvlI 8 (4+shift% 6) z<=127:=fun z=>by
   have t7:topI 8=127:=by decide
   unfold lvlI;rw[t7];split
   ·omega
   ·split<;>omega
  have t1:=tv y.1;have t2:=tv y.2;unfold inS;dsimp only;omega
 generalize qntL 8 (4+shift% 6) (scnL (smallOf l) es (noiL no (smallOf l).nz (5*n)) es.length (5*n))=Q at*;generalize lostK 8 (4+shift% 6) (scnL (smallOf l) es (noiL no (smallOf l).nz (5*n)) es.length (5*n)) (5*n)=lo at*;have kQ:=fun ws vp H (W:SI H ws Q) (R:RI H vp (smallOf l).prns)=>jeE hM (b:=8) (sh:=4+shift% 6) (prn:=(smallOf l).prns.getD j 0) (f:=0) (m:=(M:Nat)) W R p64 (by unfold In64;omega) (by unfold In64;omega);have kR:=fun ws vp H (W:SI H ws Q) (R:RI H vp (smallOf l).prns)=>jlO hM (prn:=(smallOf l).prns.getD j 0) (f:=0) (m:=(M:Nat)) W R p64 (by unfold In64;omega) (by unfold In64;omega)
 have five:=(jsO (M:=M) pe gz hin hn ⟨by omega,by omega⟩ qin hM3).resolve_right (fun q=>q p64);obtain⟨ea,es0,A⟩:=five;have pack:∃(b:Nat) (pw:Int) (cb:Bool) (L:List Int),b<n/\L.length=n/\L.getD b 0=pw/\jcO (smallOf l) 8 (4+shift% 6) Q ((smallOf l).prns.getD j 0) 0 (M:Nat)=.tuple [hitA ((smallOf l).prns.getD j 0) (b:Nat) pw (M:Nat),.bool cb,.int .i64 0]/\
   scnI (smallOf l) Q ((smallOf l).prns.getD j 0) 0 (M:Nat)=L/\(∀i,i<n->L.getD i 0<=pw)/\(∀i,i<b->L.getD i 0<pw)/\(lo=0->(∀w,w<M->∀e∈es,e.prn=(smallOf l).prns.getD j 0->alB (smallOf l) e ((b:Int)+(w:Nat)*(n:Nat))=false)->cb=false):=by
  have nn:(smallOf l).size.toNat=n:=by omega
  have Ln:(scnI (smallOf l) Q ((smallOf l).prns.getD j 0) 0 (M:Nat)).length=n:=(jeD _ _ _ _ _ _).trans nn;have b1:=jnk (scnI (smallOf l) Q ((smallOf l).prns.getD j 0) 0 (M:Nat)) n;have b2:=jiA (scnI (smallOf l) Q ((smallOf l).prns.getD j 0) 0 (M:Nat)) n;have b3:=jim (scnI (smallOf l) Q ((smallOf l).prns.getD j 0) 0 (M:Nat)) n;have hb:bstK (scnI (smallOf l) Q ((smallOf l).prns.getD j 0) 0 (M:Nat)) n<n:=by omega
  refine⟨bstK (scnI (smallOf l) Q ((smallOf l).prns.getD j 0) 0 (M:Nat)) n,_,claimB (thrI (smallOf l) (4+shift% 6) ((smallOf l).prns.getD j 0)) ((scnI (smallOf l) Q ((smallOf l).prns.getD j 0) 0 (M:Nat)).getD (bstK (scnI (smallOf l) Q ((smallOf l).prns.getD j 0) 0 (M:Nat)) n) 0) (M:Nat),scnI (smallOf l) Q ((smallOf l).prns.getD j 0) 0 (M:Nat),hb,Ln,rfl,?_,rfl,b1,b2,?_⟩
  ·unfold jcO hitI;rw[if_pos ea,nn,Int.zero_add]
  ·intro c1 al;have e:(scnI (smallOf l) Q ((smallOf l).prns.getD j 0) 0 (M:Nat)).getD (bstK (scnI (smallOf l) Q ((smallOf l).prns.getD j 0) 0 (M:Nat)) n) 0=pwK Q (sampL (smallOf l).d ((smallOf l).prns.getD j 0) (smallOf l).o.toNat) (bstK (scnI (smallOf l) Q ((smallOf l).prns.getD j 0) 0 (M:Nat)) n:Nat) (smallOf l).size M:=by
    unfold scnI at*;rw[nn]at*;rw[jf5 hb,Int.zero_add,Int.toNat_natCast]
   rw[e];exact jl7 (m:=5*n) A hn (by omega) hb hM3.2 (fun a=>det a c1) al
 obtain⟨b,pw,cb,L,hb,hL,hLb,hacq,hscn,hmax,hfst,hcl⟩:=pack;rw[es0,if_pos rfl,hscn]at kR;rw[hacq]at kQ;clear hacq hscn det ea es0 A nin esum;have Kal:=fun e (vp vb:AV) a H (v1:vp.one=true) (b1:vb.one=true) (he:EmOk (smallOf l) e) (h1:0<=a/\a<=1048576)=>jlY hM (h:=H) (e:=e) (a:=a) v1 b1 ok.nums he.en.1 he.en.2.1 h1;have i9:=p64.2.2.2.2.2.2.2 _ hin;rw[hn]at sz;generalize hsh:4+shift% 6=s at*;generalize smallOf l=p at*;rw[hn]at kz;rw[m5]at kC;unfold plA gA hitA at*;refine jd3 (hM.body (by decide) (by rfl:tab 394=some B394)) (Nat.le_of_ble_eq_true rfl) ?_
 show wp C.main0 _ none B394.code _ _;simp only[B394,zB];refine zs ?_;refine kad kA ?_;rintro r h1 ⟨rfl,s1⟩;refine zs ?_;refine kad (kS _ s1) ?_;rintro r h2 ⟨s2,vp,rfl,R2⟩;have v1:=R2.one;refine zs ?_;refine kaa (T6 _) ?_;have u2:=s1.trans s2;refine zs1 @hsh ?_;refine kaa (kz _ _ v1) (zs1 @hsh ?_);refine kal (fun H hH=>?_);have g14:H.get h2.size=some (.cells [.int .i64 p.d,.int .i64 p.o,.int .i64 p.pb,.int .i64 p.w,.int .i64 p.mn,.int .i64 p.mx,.int .i64 p.nz,vp] true 0):=by rw[hH];exact ze
 have g15:H.get (h2.size+1)=some (.cells [.int .i64 8,.int .i64 s] true 0):=by rw[hH];exact ze
 have sH2:HSub h2 H:=by rw[hH];exact zr
 have RH:=R2.mono sH2;clear hH;refine kad (kC _ _ RH (u2.trans sH2)) ?_;rintro r h4 ⟨s4,ws,we,rfl,W,E,_⟩;have g14:=(s4.get _ (kab g14)).trans g14;have g15:=(s4.get _ (kab g15)).trans g15;have R4:=RH.mono s4;have L4:=R4.len;have ij:=R4.idx (kk:=.i64) (k:=(j:Nat)) ⟨by omega,by omega⟩;rw[Int.toNat_natCast]at ij;have lj:=R4.load hjl;have El:=E.len;refine zs ?_;refine kaf (fun c1=>?_) (fun c1=>?_)
 rotate_left
 ·exact ze
 ·have lo0:lo=0:=by simpa using c1
  refine zs3 g14 v1 L4 ?_;refine kaa (TL _) (zs4 g14 v1 ij lj ?_);refine kaa (T3 _) (zs3 hMe g14 g15 ?_);refine kad (kQ _ _ _ W R4) ?_;rintro r h5 ⟨rfl,s5⟩;have g14:=(s5.get _ (kab g14)).trans g14;have W5:=W.mono s5;have R5:=R4.mono s5;have E5:=E.mono s5;have l14:=kab g14;refine zs1 g14 ?_;refine kal (fun H6 hH6=>?_);have g14:H6.get h2.size=some (.cells [.int .i64 p.d,.int .i64 p.o,.int .i64 p.pb,.int .i64 p.w,.int .i64 p.mn,.int .i64 p.mx,.int .i64 p.nz,vp] true 0):=by rw[hH6];exact ze1 g14
  have g21:H6.get h5.size=some (.cells [.int .i64 (p.prns.getD j 0),.int .i64 (b:Nat),.int .i64 pw,.int .i64 (M:Nat)] true 0):=by rw[hH6];exact ze
  have s6:HSub h5 H6:=by rw[hH6];exact zr
  clear hH6;have W6:=W5.mono s6;have R6:=R5.mono s6;have E6:=E5.mono s6;refine kad (kR _ _ _ W6 R6) ?_;rintro r h7 ⟨w7,rfl,s7,Q7⟩;have g14:=(s7.get _ (kab g14)).trans g14;have g21:=(s7.get _ (kab g21)).trans g21;have E7:=E6.mono s7;have El7:=E7.len;have i7:=Q7.idx (kk:=.i64) (k:=(b:Nat)) ⟨by omega,by omega⟩;rw[Int.toNat_natCast]at i7;have d7:=Q7.load (k:=b) (by omega);rw[hLb]at d7;have bn:¬((b:Int)≥(n:Int)):=by omega
  have b0:¬((b:Int)<0):=by omega
  refine zs7 @jai.eq_1 g21 @Q7.len hL i7 d7 (zI bn b0) ?_;have k7:=Kal;refine jae (fun jj t H=>H=h7/\t 13=.bool true/\t 14=.ptr h2.size 0/\t 16=.int .i64 (n:Nat)/\t 18=we/\t 20=.int .i64 (p.prns.getD j 0)/\t 5=.int .i64 (M:Nat)/\t 21=.ptr h5.size 0/\t 22=.bool cb/\t 24=w7/\∃a:Nat,t 26=.int .i64 (a:Nat)/\a<=n/\jj=n-a) (j0:=n)
   ⟨rfl,rfl,rfl,rfl,rfl,rfl,rfl,rfl,rfl,rfl,0,rfl,by omega,rfl⟩ ?_
  rintro jj t H ⟨rfl,e13,e14,e16,e18,e20,e5,e21,e22,e24,a,e26,ha,hjj⟩;refine zs2 e26 e16 ?_;refine kaf (fun c2=>?_) (fun c2=>?_)
  ·have ia:=Q7.idx (kk:=.i64) (k:=(a:Nat)) ⟨by omega,by omega⟩;rw[Int.toNat_natCast]at ia;have da:=Q7.load (k:=a) (by omega);have m1:=hmax a (by omega);have m2:=hfst a;have n1:¬(pw<L.getD a 0):=by omega
   by_cases c3:L.getD a 0=pw
   ·have n2:¬((a:Int)<(b:Nat)):=fun q=>by have:=m2 (by omega);omega
    rw[c3]at da;refine zs7 e24 e26 e21 ia da g21 @n2 ?_;exact⟨_,⟨e13,e14,e16,e18,e20,e5,e22,a+1,by simp,by omega,rfl⟩,by omega⟩
   ·refine zs7 e24 e26 e21 ia da g21 (zI @n1 (zI c3 @gV_u)) ?_;exact⟨_,⟨e13,e14,e16,e18,e20,e5,e22,a+1,by simp,by omega,rfl⟩,by omega⟩
  ·refine zs ?_;refine jae (fun jj t H2=>H2=H/\t 13=.bool true/\t 14=.ptr h2.size 0/\t 16=.int .i64 (n:Nat)/\t 18=we/\t 20=.int .i64 (p.prns.getD j 0)/\t 5=.int .i64 (M:Nat)/\t 21=.ptr h5.size 0/\t 22=.bool cb/\∃(k:Nat) (al:Bool),t 27=.bool al/\t 28=.int .i64 (k:Nat)/\k<=es.length/\jj=es.length-k/\(al=false->∀x,x<k->(es.getD x eD).prn=p.prns.getD j 0->∀w,w<M->alB p (es.getD x eD) ((b:Int)+(w:Nat)*(n:Nat))=false)) (j0:=es.length)
    ⟨rfl,e13,e14,e16,e18,e20,e5,e21,e22,0,false,rfl,rfl,by omega,rfl,fun _ x hx=>absurd hx (Nat.not_lt_zero x)⟩ ?_
   rintro jj u H2 ⟨rfl,f13,f14,f16,f18,f20,f5,f21,f22,k,al,f27,f28,hk,hjj,hal⟩;refine zs3 f28 f18 El7 ?_;refine kaf (fun c3=>?_) (fun c3=>?_)
   ·have hk':k<es.length:=by omega
    have eat:=E7.at hk';obtain⟨vb,i8,l8,Bb,f8,l0,l1⟩:=eat;have l8:=l8 _ (kag _);have l0:=l0 _ (kag _);have f80:=f8 0;have b1:=Bb.one;have eo:=eok (es.getD k eD) (by rw[List.getD_eq_getElem?_getD,List.getElem?_eq_getElem hk'];exact List.getElem_mem _);refine zs ?_;refine jae (fun jj u H3=>H3=H2/\u 13=.bool true/\u 14=.ptr h2.size 0/\u 16=.int .i64 (n:Nat)/\u 18=we/\u 20=.int .i64 (p.prns.getD j 0)/\u 5=.int .i64 (M:Nat)/\u 21=.ptr h5.size 0/\u 22=.bool cb/\u 28=.int .i64 (k:Nat)/\∃(w:Nat) (a2:Bool),u 27=.bool a2/\u 29=.int .i64 (w:Nat)/\w<=M/\jj=M-w/\(a2=false->al=false/\((es.getD k eD).prn=p.prns.getD j 0->∀x,x<w->alB p (es.getD k eD) ((b:Int)+(x:Nat)*(n:Nat))=false))) (j0:=M)
     ⟨rfl,f13,f14,f16,f18,f20,f5,f21,f22,f28,0,al,f27,rfl,by omega,rfl,fun q=>⟨q,fun _ x hx=>absurd hx (Nat.not_lt_zero x)⟩⟩ ?_
    rintro jj2 u2 H3 ⟨rfl,g13,g14',g16,g18,g20,g5,g21',g22,g28,w,a2,g27,g29,hw,hjj2,ha2⟩;refine zs2 g29 g5 ?_;refine kaf (fun c4=>?_) (fun c4=>?_)
    ·have hw':w<M:=by omega
     have ks1:0<=(w:Int)*(n:Int):=Int.mul_nonneg (by omega) (by omega);have ks2:(w:Int)*(n:Int)<=2*(n:Int):=Int.mul_le_mul_of_nonneg_right (by omega) (by omega);have kAk:=k7 (es.getD k eD) vp vb ((b:Int)+(w:Nat)*(n:Nat)) H3 v1 b1 eo ⟨by omega,by omega⟩;cases a2 with
     |true=>
      refine zs3 g27 g29 @gV_u ?_;exact⟨_,⟨g13,g14',g16,g18,g20,g5,g21',g22,g28,w+1,true,rfl,by simp,by omega,rfl,fun q=>by cases q⟩,by omega⟩
     | false =>
      have hq:=ha2 rfl;by_cases c9:(es.getD k eD).prn=p.prns.getD j 0
      ·have nx:alB p (es.getD k eD) ((b:Int)+(w:Nat)*(n:Nat))=false->al=false/\((es.getD k eD).prn=p.prns.getD j 0->∀x,x<w+1->alB p (es.getD k eD) ((b:Int)+(x:Nat)*(n:Nat))=false):=fun q=>⟨hq.1,fun hp x hx=>by
        rcases Nat.lt_or_ge x w with y|y
        ·exact hq.2 hp x y
        ·obtain rfl:x=w:=by omega
         exact q⟩
       refine zs7 g27 g28 g18 g20 g16 g29 (zI g14' (zI g21' (zI i8 (zI f80 (zI l0 (zI l8 (zI @c9 (zI g14 g21)))))))) ?_;refine kaa kAk (zs1 g29 ?_);exact⟨_,⟨g13,g14',g16,g18,g20,g5,g21',g22,g28,w+1,_,rfl,by simp,by omega,rfl,nx⟩,by omega⟩
      ·refine zs7 g27 g28 g18 g20 g29 i8 (zI f80 (zI l0 (zI @c9 @gV_u))) ?_;exact⟨_,⟨g13,g14',g16,g5,g21',g22,w+1,false,rfl,by simp,by omega,rfl,fun _=>hq.1⟩,by omega⟩
    ·obtain rfl:w=M:=by omega
     refine zs1 g28 ?_;exact⟨_,⟨g13,g14',g16,g18,g20,g5,g21',g22,k+1,a2,g27,by simp,by omega,rfl,fun q x hx hp y hy=>by
      have hq:=ha2 q;rcases Nat.lt_or_ge x k with z|z
      ·exact hal hq.1 x z hp y hy
      ·obtain rfl:x=k:=by omega
       exact hq.2 hp y hy⟩,by omega⟩
   ·obtain rfl:k=es.length:=by omega
    cases cb with
    |false=>exact ze3 f13 f22 @gV_u
    | true =>
     cases al with
     |true=>exact ze4 f13 f22 f27 @gV_u
     | false =>
      have q:=hcl lo0 fun w hw e he hep=>by
       obtain⟨x,hx,rfl⟩:=List.getElem_of_mem he;have q:=hal rfl x hx;rw[List.getD_eq_getElem?_getD,List.getElem?_eq_getElem hx,Option.getD_some]at q;exact q hep w hw
      cases q
end Go.Ae
