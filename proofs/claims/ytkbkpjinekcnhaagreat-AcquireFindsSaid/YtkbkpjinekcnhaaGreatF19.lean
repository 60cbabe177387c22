/- Texts of the proof, part 19: a second reading of the lowered code, proved sound, and what the functions compute. -/
import Derived.Test.YtkbkpjinekcnhaaGreatF18
set_option linter.unusedSimpArgs false
set_option linter.unusedVariables false
set_option maxRecDepth 20000
set_option maxHeartbeats 4000000
namespace Go.Ae
variable {C : Ctx} {h : Heap} {v : AV} {p : PlanP} {i : Nat} {l : List Int} {prn d f a : Int}
theorem sq_nn(x:Int):0<=x*x:=by
 rcases Int.lt_or_le x 0 with c|c
 ·have:=Int.mul_nonneg (show 0<= -x by omega) (show 0<= -x by omega)
  rwa [Int.neg_mul_neg]at this
 ·exact Int.mul_nonneg c c
def sgK(r:Nat->Int):Nat->Int
 |0=>0
 |k+1=>sgK r k+r k
theorem jiQ{f g:Nat->Int}:∀{n:Nat},(∀j,j<n->f j=g j)->sgK f n=sgK g n
 |0,_=>rfl
 |n+1,h=>by rw[sgK,sgK,jiQ (fun j hj=>h j (by omega)),h n (by omega)]
theorem jnz(c:Int)(g:Nat->Int):∀n,sgK (fun k=>c*g k) n=c*sgK g n
 |0=>by simp[sgK]
 |n+1=>by rw[sgK,sgK,jnz c g n,Int.mul_add]
def nrm(x y r:Int):Prop:=0<=r/\x*x+y*y<=r*r
theorem jiR{x1 y1 x2 y2 r t:Int}(h1:nrm x1 y1 r)(h2:nrm x2 y2 t):nrm (x1+x2) (y1+y2) (r+t):=by
 obtain⟨hr,h1⟩:=h1;obtain⟨ht,h2⟩:=h2;refine⟨by omega,?_⟩;have c:x1*x2+y1*y2<=r*t:=by
  rcases Int.lt_or_le (r*t) (x1*x2+y1*y2)with q|q
  ·exfalso;have rt:=Int.mul_nonneg hr ht;have a1:(x1*x1+y1*y1)*(x2*x2+y2*y2)<=(r*r)*(t*t):=Int.mul_le_mul h1 h2 (by have:=sq_nn x2;have:=sq_nn y2;omega) (Int.mul_nonneg hr hr);have a2:(x1*x1+y1*y1)*(x2*x2+y2*y2)=(x1*x2+y1*y2)*(x1*x2+y1*y2)+(x1*y2-y1*x2)*(x1*y2-y1*x2):=by grind
   have a3:=sq_nn (x1*y2-y1*x2);have a4:(r*r)*(t*t)=(r*t)*(r*t):=by grind
   generalize x1*x2+y1*y2=X at*;generalize r*t=Y at*;have a5:(Y+1)*(Y+1)<=X*X:=Int.mul_le_mul (by omega) (by omega) (by omega) (by omega);have a6:(Y+1)*(Y+1)=Y*Y+2*Y+1:=by grind
   omega
  ·exact q
 have e1:(x1+x2)*(x1+x2)+(y1+y2)*(y1+y2)=(x1*x1+y1*y1)+(x2*x2+y2*y2)+2*(x1*x2+y1*y2):=by grind
 have e2:(r+t)*(r+t)=r*r+t*t+2*(r*t):=by grind
 omega
theorem jkT{x y r t:Int}(h:nrm x y r)(hr:r<=t):nrm x y t:=⟨by have:=h.1;omega,Int.le_trans h.2 (jfC h.1 hr)⟩
theorem jcv{A:List Int}{u v:Nat->Int×Int}:∀k,(∀i,i<k->u i=v i)->sumW A u k=sumW A v k
 |0,_=>rfl
 |k+1,h=>by rw[sumW,sumW,jcv k (fun i hi=>h i (by omega)),h k (by omega)]
theorem jkU(A:List Int)(u v:Nat->Int×Int):∀k,sumW A (fun i=>addP (u i) (v i)) k=addP (sumW A u k) (sumW A v k)
 |0=>rfl
 |k+1=>by
  rw[sumW,sumW,sumW,jkU A u v k];unfold addP;refine Prod.ext ?_ ?_<;>grind
theorem jkV{A:List Int}{u:Nat->Int×Int}{B:Int}(hA:one1 A)(hB:0<=B):∀k:Nat,(∀i,i<k->inS B (u i))->inS (B*k) (sumW A u k)
 |0,_=>by unfold inS sumW;simp
 |k+1,h=>by
  have ih:=jkV hA hB k (fun i hi=>h i (by omega));have a:=hA.get k;have b:=h k (by omega);have m1:=mul_one (x:=(u k).1) (c:=A.getD k 0) (B:=B) (by unfold inS at b;omega) a;have m2:=mul_one (x:=(u k).2) (c:=A.getD k 0) (B:=B) (by unfold inS at b;omega) a;rw[Int.mul_comm]at m1 m2;rw[sumW];unfold inS at*;have e:B*((k+1:Nat):Int)=B*k+B:=by rw[Int.natCast_add,Int.mul_add];simp
  rw[e];dsimp only;omega
def mixV(u:Nat->Int×Int)(p:PlanP)(es:List EmitP)(a:Int):Nat->Nat->Int×Int
 |0,i=>u i
 |k+1,i=>addP (mixV u p es a k i) (atV p (es.getD k eD) (a+(i:Nat)))
theorem jjL{u:Nat->Int×Int}{p:PlanP}{es:List EmitP}{a:Int}{A:List Int}{n:Nat}{r:Nat->Int}{t:Int}(h0:nrm (sumW A u n).1 (sumW A u n).2 t)
  (hr:∀k,k<es.length->nrm (sumW A (fun i=>atV p (es.getD k eD) (a+(i:Nat))) n).1 (sumW A (fun i=>atV p (es.getD k eD) (a+(i:Nat))) n).2 (r k)):
  ∀k,k<=es.length->nrm (sumW A (mixV u p es a k) n).1 (sumW A (mixV u p es a k) n).2 (t+sgK r k)
 |0,_=>by
  have e:sumW A (mixV u p es a 0) n=sumW A u n:=jcv n (fun i _=>rfl);rw[e,sgK,Int.add_zero];exact h0
 | k + 1, hk => by
  have ih:=jjL h0 hr k (by omega);have e:sumW A (mixV u p es a (k+1)) n=addP (sumW A (mixV u p es a k) n) (sumW A (fun i=>atV p (es.getD k eD) (a+(i:Nat))) n):=by
   rw[<-jkU];exact jcv n (fun i _=>rfl)
  rw[e];have q:=jiR ih (hr k (by omega));rw[sgK,<-Int.add_assoc];exact q
theorem juk{e:EmitP}(ok:EmOk p e)(ha:0<=a/\a<4*p.size)(h:alB p e a=false):p.o<=a-e.sta p (e.pl p a)/\p.o<=e.sta p (e.pl p a+1)-a:=by
 have sz:=jal ok.pn;have dl:=ok.en.1;have rt:=ok.en.2.1;have l1:e.sta p (e.pl p a)<=a:=pl_le (dl:=e.dl) (n:=a) ok.den;have l2:a<e.sta p (e.pl p a+1):=pl_lt (dl:=e.dl) (n:=a) ok.den;have kd:e.pl p a=(1024*(a-e.dl+1)-1)/(1024*p.size+e.rt):=rfl;have hD:=ok.den;have b1:∀c:Int,c*(1024*p.size+e.rt)<=1024*(a-e.dl+1)-1->c<=e.pl p a:=fun c hc=>by rw[kd];exact(Int.le_ediv_iff_mul_le hD).2 hc
 have b2:∀c:Int,1024*(a-e.dl+1)-1<c*(1024*p.size+e.rt)->e.pl p a<c:=fun c hc=>by rw[kd];exact(Int.ediv_lt_iff_lt_mul hD).2 hc
 have qn:(0<=a-e.dl->Int.tdiv (a-e.dl) p.size=(a-e.dl)/p.size):=fun h=>Int.tdiv_eq_ediv_of_nonneg h;have qz:(a-e.dl<0->Int.tdiv (a-e.dl) p.size=0):=fun h=>by
  have t1:=Int.natAbs_tdiv (a-e.dl) p.size;have t2:(a-e.dl).natAbs.div p.size.natAbs=0:=Nat.div_eq_of_lt (by omega);rw[t2]at t1;omega
 have hit:∀K:Int,Int.tdiv (a-e.dl) p.size-3<=K->K<=Int.tdiv (a-e.dl) p.size+3->¬alI p e a K:=fun K h1 h2 q=>by
  unfold alB at h;have:=List.any_eq_false.1 h (K-(Int.tdiv (a-e.dl) p.size-3)).toNat (List.mem_range.2 (by omega));have e1:Int.tdiv (a-e.dl) p.size-3+((K-(Int.tdiv (a-e.dl) p.size-3)).toNat:Int)=K:=by omega
  rw[e1]at this;simp only[decide_eq_true_eq]at this;exact this q
 have rng:Int.tdiv (a-e.dl) p.size-3<=e.pl p a/\e.pl p a+1<=Int.tdiv (a-e.dl) p.size+3:=by
  rcases Int.lt_or_le (a-e.dl) 0 with c|c
  ·rw[qz c];have c1:=b1 (-2) (by omega);have c2:=b2 1 (by omega);omega
  ·rw[qn c];have d1:=Int.ediv_mul_le (a-e.dl) (show p.size≠0 by omega);have d2:=Int.lt_ediv_add_one_mul_self (a-e.dl) (show 0<p.size by omega);have d3:(a-e.dl)/p.size<4:=(Int.ediv_lt_iff_lt_mul (by omega)).2 (by omega);have d4:0<=(a-e.dl)/p.size:=Int.ediv_nonneg c (by omega);generalize (a-e.dl)/p.size=q at*;rcases(show q=0\/q=1\/q=2\/q=3 by omega)with rfl|rfl|rfl|rfl
   ·have c1:=b1 (-2) (by omega);have c2:=b2 2 (by omega);omega
   ·have c1:=b1 (-2) (by omega);have c2:=b2 3 (by omega);omega
   ·have c1:=b1 (-1) (by omega);have c2:=b2 4 (by omega);omega
   ·have c1:=b1 0 (by omega);have c2:=b2 5 (by omega);omega
 have h1:=hit _ rng.1 (by omega);have h2:=hit _ (by omega) rng.2;have e1:alI p e a (e.pl p a)↔(e.sta p (e.pl p a)-a<p.o/\a-e.sta p (e.pl p a)<p.o):=Iff.rfl;have e2:alI p e a (e.pl p a+1)↔(e.sta p (e.pl p a+1)-a<p.o/\a-e.sta p (e.pl p a+1)<p.o):=Iff.rfl;rw[e1]at h1;rw[e2]at h2;have po:=ok.pn.2.1;omega
theorem jrC{q:List (Int×Int)}{c:List Int}{a:Nat}{P:Int}:∀k:Nat,a+k<=q.length->(P*(sumK q c a k).1,P*(sumK q c a k).2)=sumW c (fun i=>(P*(q.getD (a+i) (0,0)).1,P*(q.getD (a+i) (0,0)).2)) k
 |0,_=>by simp[sumK,sumW]
 | k + 1, h => by
  have ih:=jrC (q:=q) (a:=a) (P:=P) (c:=c) k (by omega);have e:atP q ((a:Int)+(k:Nat))=q.getD (a+k) (0,0):=by
   unfold atP;rw[if_neg (by omega)];congr 1
  rw[sumK,sumW,<-ih,e];unfold addP mulP;refine Prod.ext ?_ ?_<;>grind
theorem jnA{p:PlanP}{es:List EmitP}{ns:List (Int×Int)}{a:Nat}{er:Nat->Int×Int}{i:Nat}:∀k,mixV (fun i=>addP (ns.getD (a+i) (0,0)) (er i)) p es a k i=addP (scnV p es ns k (a+i)) (er i)
 |0=>rfl
 |k+1=>by
  have e:((a:Int)+(i:Nat))=((a+i:Nat):Int):=by omega
  rw[mixV,jnA k,scnV,e];unfold addP;refine Prod.ext ?_ ?_<;>grind
theorem jrD{x y K H:Int}(hK:0<=K)(h:inS K (x,y))(hH:3*K<=2*H):nrm x y H:=by
 unfold inS at h;dsimp only at h;refine⟨by omega,?_⟩;have a1:∀z:Int,-K<=z->z<=K->z*z<=K*K:=fun z h1 h2=>by
  rcases Int.lt_or_le z 0 with c|c
  ·have:=jfC (x:= -z) (y:=K) (by omega) (by omega)
   rwa [Int.neg_mul_neg]at this
  ·exact jfC c h2
 have b1:=a1 x h.1.1 h.1.2;have b2:=a1 y h.2.1 h.2.2;have c1:=jfC (x:=3*K) (y:=2*H) (by omega) hH;have e1:3*K*(3*K)=9*(K*K):=by grind
 have e2:2*H*(2*H)=4*(H*H):=by grind
 have:=sq_nn K;omega
theorem jpD{p:PlanP}{s prn:Int}{es:List EmitP}{nn:List (Int×Int)}{a m:Nat}(ok:PlanOk p)(hs:0<=s/\s<=30)(hin:prn∈p.prns)(eok:∀e∈es,EmOk p e)(nin:∀x∈nn,inS p.nz x)
  (hl:lostK 8 s (scnL p es nn es.length m) m=0) (ha:(a:Int)+p.size<=m) (ha4:(a:Int)<4*p.size) (al:∀e∈es,e.prn=prn->alB p e a=false)
  (hsum:sgK (fun k=>128*p.mx*sumI p.d p.o prn (es.getD k eD).prn) es.length<=128*p.mx*(sumI p.d p.o prn prn+p.oth prn)):
  (sumP (qntL 8 s (scnL p es nn es.length m)) (sampL p.d prn p.o.toNat) a).1*(sumP (qntL 8 s (scnL p es nn es.length m)) (sampL p.d prn p.o.toNat) a).1+(sumP (qntL 8 s (scnL p es nn es.length m)) (sampL p.d prn p.o.toNat) a).2*(sumP (qntL 8 s (scnL p es nn es.length m)) (sampL p.d prn p.o.toNat) a).2<=thrI p s prn*thrI p s prn:=by
 have pn:=ok.nums;have nz:=pn.2.2.2.2.2.2;have sz:=jal pn;have pw:=jcP hs;have A1:=jaZ p.d prn p.o.toNat;have Al:((sampL p.d prn p.o.toNat).length:Int)=p.size:=by rw[jaF,sz.2.2]
 have ql:(qntL 8 s (scnL p es nn es.length m)).length=m:=by unfold qntL;rw[List.length_map,jdf]
 have SK:=jrC (q:=qntL 8 s (scnL p es nn es.length m)) (c:=sampL p.d prn p.o.toNat) (a:=a) (P:=2^s.toNat) (sampL p.d prn p.o.toNat).length (by omega);have cr:0<=coarI s:=by unfold coarI;omega
 have qat:∀i,i<(sampL p.d prn p.o.toNat).length->inS (coarI s) (2^s.toNat*((qntL 8 s (scnL p es nn es.length m)).getD (a+i) (0,0)).1-(scnV p es nn es.length (a+i)).1,2^s.toNat*((qntL 8 s (scnL p es nn es.length m)).getD (a+i) (0,0)).2-(scnV p es nn es.length (a+i)).2):=by
  intro i hi;have him:a+i<m:=by omega
  have e1:(scnL p es nn es.length m).getD (a+i) (0,0)=scnV p es nn es.length (a+i):=by
   simp[scnL,List.getD_eq_getElem?_getD,him]
  have e2:(qntL 8 s (scnL p es nn es.length m)).getD (a+i) (0,0)=(lvlI 8 s (scnV p es nn es.length (a+i)).1,lvlI 8 s (scnV p es nn es.length (a+i)).2):=by
   simp[qntL,scnL,List.getD_eq_getElem?_getD,him]
  have lo:=jgS hl (a+i) him;rw[e1]at lo;rw[e2];generalize scnV p es nn es.length (a+i)=z at*;have r1:=jhA (x:=z.1) hs;have r2:=jhA (x:=z.2) hs;have g1:lvlI 8 s z.1=rndI z.1 s:=by
   have:=of_decide_eq_false lo.1;unfold lvlI;rw[if_neg (by omega),if_neg (by omega)]
  have g2:lvlI 8 s z.2=rndI z.2 s:=by
   have:=of_decide_eq_false lo.2;unfold lvlI;rw[if_neg (by omega),if_neg (by omega)]
  unfold inS;dsimp only;rw[g1,g2];omega
 have U0:=fun i (hi:i<(sampL p.d prn p.o.toNat).length)=>jkr (show inS p.nz (nn.getD (a+i) (0,0))by
  rcases Nat.lt_or_ge (a+i) nn.length with c|c
  ·exact nin _ (jcg c)
  ·rw[List.getD_eq_getElem?_getD,List.getElem?_eq_none c];unfold inS;simp only[Option.getD_none];omega) (qat i hi)
 have box:=jkV A1 (show 0<=p.nz+coarI s by omega) (sampL p.d prn p.o.toNat).length U0;have h0:=jrD (H:=humI p s) (Int.mul_nonneg (show 0<=p.nz+coarI s by omega) (by omega)) box (by
  unfold humI;rw[Al];have e:3*p.size*(p.nz+coarI s)=3*((p.nz+coarI s)*p.size):=by grind
  rw[e];generalize (p.nz+coarI s)*p.size=K;omega)
 have mw:=jjL (p:=p) (es:=es) (a:=(a:Int)) (r:=fun k=>128*p.mx*sumI p.d p.o prn (es.getD k eD).prn) h0 (fun k hk=>by
  have hm:es.getD k eD∈es:=by rw[List.getD_eq_getElem?_getD,List.getElem?_eq_getElem hk];exact List.getElem_mem _
  have oke:=eok _ hm;have ale:=al _ hm;generalize es.getD k eD=e at*;have w:=jjK oke (A:=sampL p.d prn p.o.toNat) Al (a:Int) (if prn=e.prn then p.o.toNat else 0) (by
   by_cases c:prn=e.prn
   ·rw[if_pos c];have nr:=juk oke (by omega) (ale c.symm);have po:=pn.2.1;right;omega
   ·rw[if_neg c];exact .inl rfl)
  have sr:=(jbB pn prn e.prn).1;have am:e.amp<=p.mx:=oke.en.2.2.1.2;have a0:0<=e.amp:=by
   have:=oke.en.2.2.1;have:=pn.2.2.2.2.1;omega
  have es:sumI p.d p.o prn e.prn=greatI (sampL p.d prn p.o.toNat) (sampL p.d e.prn p.o.toNat) (if prn=e.prn then p.o.toNat else 0):=rfl;rw[<-es]at w;have aS:=Int.mul_nonneg a0 sr;have le:128*(e.amp*sumI p.d p.o prn e.prn)<=128*p.mx*sumI p.d p.o prn e.prn:=by
   have:=Int.mul_le_mul_of_nonneg_right am sr;rw[Int.mul_assoc];omega
  refine jkT (r:=128*(e.amp*sumI p.d p.o prn e.prn)) ⟨by omega,?_⟩ le;have e3:128*(e.amp*sumI p.d p.o prn e.prn)*(128*(e.amp*sumI p.d p.o prn e.prn))=16384*(e.amp*sumI p.d p.o prn e.prn*(e.amp*sumI p.d p.o prn e.prn)):=by grind
  rw[e3];exact w) es.length (Nat.le_refl _)
 have e5:sumW (sampL p.d prn p.o.toNat) (mixV (fun i=>addP (nn.getD (a+i) (0,0)) (2^s.toNat*((qntL 8 s (scnL p es nn es.length m)).getD (a+i) (0,0)).1-(scnV p es nn es.length (a+i)).1,2^s.toNat*((qntL 8 s (scnL p es nn es.length m)).getD (a+i) (0,0)).2-(scnV p es nn es.length (a+i)).2)) p es a es.length) (sampL p.d prn p.o.toNat).length=
   (2^s.toNat*(sumP (qntL 8 s (scnL p es nn es.length m)) (sampL p.d prn p.o.toNat) a).1,2^s.toNat*(sumP (qntL 8 s (scnL p es nn es.length m)) (sampL p.d prn p.o.toNat) a).2):=by
  unfold sumP;rw[SK];refine jcv _ fun i hi=>?_;rw[jnA];unfold addP;refine Prod.ext ?_ ?_<;>(dsimp only;omega)
 rw[e5]at mw;generalize sumP (qntL 8 s (scnL p es nn es.length m)) (sampL p.d prn p.o.toNat) a=X at*;have tm:=jnl ok hs prn;have fin:=jkT mw (t:=thrI p s prn*2^s.toNat) (by unfold boundI at tm;omega);have f2:=fin.2;dsimp only at f2;generalize (2:Int)^s.toNat=P at*;generalize thrI p s prn=t at*;have e6:P*X.1*(P*X.1)+P*X.2*(P*X.2)=P*P*(X.1*X.1+X.2*X.2):=by grind
 have e7:t*P*(t*P)=P*P*(t*t):=by grind
 rw[e6,e7]at f2;exact Int.le_of_mul_le_mul_left f2 (Int.mul_pos (by omega) (by omega))
theorem jrE{p:PlanP}{l:List Int}{prn:Int}(ok:PlanOk p)(hin:prn∈p.prns):∀k,k<=p.prns.length->sgK (fun i=>sumI p.d p.o prn ((esK p l k).getD i eD).prn) (esK p l k).length<=othK (sumI p.d p.o) prn p.prns k+(if prn∈p.prns.take k then sumI p.d p.o prn prn else 0)
 |0,_=>by simp[esK,sgK,othK]
 | k + 1, hk => by
  have ih:=jrE (l:=l) ok hin k (by omega);have r0:=jbB ok.nums prn (p.prns.getD k 0);have r1:=jbB ok.nums prn prn;have tk:=jhw (l:=p.prns) (k:=k) hk;have step:othK (sumI p.d p.o) prn p.prns k+(if prn∈p.prns.take k then sumI p.d p.o prn prn else 0)+sumI p.d p.o prn (p.prns.getD k 0)<=othK (sumI p.d p.o) prn p.prns (k+1)+(if prn∈p.prns.take (k+1)then sumI p.d p.o prn prn else 0):=by
   rw[othK,tk];have nt:=jdn ok.nodup (i:=k) hk;by_cases c:p.prns.getD k 0=prn
   ·rw[c]at nt;rw[if_pos c,if_neg nt,if_pos (by rw[c];simp),c];omega
   ·rw[if_neg c];by_cases c2:prn∈p.prns.take k
    ·rw[if_pos c2,if_pos (List.mem_append_left _ c2)];omega
    ·rw[if_neg c2,if_neg (by simp only[List.mem_append,List.mem_singleton,not_or];exact⟨c2,fun q=>c q.symm⟩)];omega
  by_cases c:someOf l k 3=0
  ·have e:esK p l (k+1)=esK p l k:=if_pos c;rw[e];omega
  ·have e:esK p l (k+1)=esK p l k++[emitAt p k (cutE l k)]:=if_neg c;have e1:sgK (fun i=>sumI p.d p.o prn ((esK p l (k+1)).getD i eD).prn) (esK p l (k+1)).length=sgK (fun i=>sumI p.d p.o prn ((esK p l k).getD i eD).prn) (esK p l k).length+sumI p.d p.o prn (p.prns.getD k 0):=by
    rw[e,List.length_append,List.length_singleton,sgK];congr 1
    ·refine jiQ fun i hi=>?_;rw[List.getD_eq_getElem?_getD,List.getElem?_append_left hi,<-List.getD_eq_getElem?_getD]
    ·rw[List.getD_eq_getElem?_getD,List.getElem?_append_right (Nat.le_refl _)];simp[emitAt]
   rw[e1];omega
theorem jrF{a b c d e f g x:AV}{u:Nat}{wr:Bool}:contB 1 8 0 (some (.cells [a,b,c,d,e,f,g,x] wr u))=some (1,[a,b,c,d,e,f,g,x]):=rfl
theorem js5{k:Nat}(h:someOf l k 3=0):esK p l (k+1)=esK p l k:=if_pos h
theorem jul{k:Nat}(h:¬someOf l k 3=0):esK p l (k+1)=esK p l k++[emitAt p k (cutE l k)]:=if_neg h
def stE(st:Bool)(e:EmitP):EmitP:={e with rt:=if st=true then 0 else e.rt}
def esT(p:PlanP)(l:List Int)(st:Bool)(k:Nat):List EmitP:=(esK p l k).map (stE st)
theorem jum{st:Bool}{e:EmitP}(h:emitErr p e=0):emitErr p (stE st e)=0:=by
 have n:e.numsOk p->(stE st e).numsOk p:=fun⟨a,b,c,d⟩=>by
  refine⟨a,?_,c,d⟩;unfold stE;dsimp only;split<;>omega
 unfold emitErr at h|-;split at h
 ·rename_i c;rw[if_pos c];split at h
  ·rename_i c2;rw[if_pos (show(p.prns.any fun y=>(stE st e).prn==y)=true from c2)];split at h
   ·rename_i c3;rw[if_pos (n c3)];exact h
   ·cases h
  ·cases h
 ·rename_i c;exact absurd h c
theorem juK{st:Bool}{e:EmitP}(h:e.ok64):(stE st e).ok64:=by
 obtain⟨a,b,c,r⟩:=h;refine⟨a,b,?_,r⟩;unfold stE In64 at*;dsimp only;split<;>omega
theorem jnB(p:PlanP)(l:List Int)(st:Bool)(k:Nat):(esT p l st k).length<=k:=by
 unfold esT;rw[List.length_map];exact jrw p l k
theorem jtu{st:Bool}(hp:p.err=0)(pn:p.numsOk)(h64:p.ok64)(k:Nat)(hk:k<=p.prns.length):∀e∈esT p l st k,emitErr p e=0/\e.ok64/\(st=true->e.rt=0)/\∃i,i<k/\e.prn=p.prns.getD i 0:=by
 intro e he;obtain⟨y,hy,rfl⟩:=List.mem_map.1 he;obtain⟨a,b,i,c⟩:=jry hp pn h64 k hk y hy;exact⟨jum a,juK b,fun q=>by unfold stE;rw[if_pos q],i,c⟩
theorem jrG(p:PlanP)(l:List Int)(st:Bool)(k:Nat):(esT p l st k).map (·.prn)=(esK p l k).map (·.prn):=by
 unfold esT;rw[List.map_map];rfl
theorem js6{st:Bool}{k:Nat}(h:someOf l k 3=0):esT p l st (k+1)=esT p l st k:=by unfold esT;rw[js5 h]
theorem jun{st:Bool}{k:Nat}(h:¬someOf l k 3=0):esT p l st (k+1)=esT p l st k++[stE st (emitAt p k (cutE l k))]:=by unfold esT;rw[jul h,List.map_append];rfl
theorem jkW(hC:Has C TA){vp vl vn:AV}{p:PlanP}{l ns:List Int}{s:Int}{m:Nat}{st:Bool}{h:Heap}(R:RI h vp p.prns)(h64:p.ok64)(hp:p.err=0)(hl:RI h vl l)(K:KnownCap vl)(hx:∀x∈l,In64 x)(hn:RI h vn ns)(hxn:∀x∈ns,In64 x)(hg:gErr 8 s=0)(hm:m<=1048576):
  ACalls C 405 [plA p vp,gA 8 s,vl,vn,.int .i64 (m:Nat),.bool st] h (fun r h'=>HSub h h'/\∃ws we,r=.tuple [ws,we,.bool (decide (lostK 8 s (scnL p (esT p l st p.prns.length) (noiL ns p.nz m) (esT p l st p.prns.length).length m) m=0))]/\
   SI h' ws (qntL 8 s (scnL p (esT p l st p.prns.length) (noiL ns p.nz m) (esT p l st p.prns.length).length m))/\EmsI h' we (esT p l st p.prns.length)/\KnownCap ws):=by
 have v1:=R.one;have pok:=jdP hp;have pn:=pok.nums;have plen:=pok.len;have hlt:=hl.lt;have L:=hl.len;have Rl:=R.len;have S:=fun(i:Nat) h1 (q:HSub h h1)=>jeM hC (i:=i) (n:=3) (hl.mono q) hx (by omega);have kE:=fun(k:Nat) (hk:k<p.prns.length) v' (B:RI h v' (cutE l k)) h1 (q:HSub h h1)=>jma hC (w:=plA p vp) (u0:=k) (h:=h1) ⟨vp,rfl,R.mono q⟩ pn hk h64 (B.mono q) (fun x hx'=>hx x (List.mem_of_mem_drop (List.mem_of_mem_take hx')));have nz:=pn.2.2.2.2.2.2;have kN:=fun h1 (q:HSub h h1)=>jmb hC (vp:=vp) (p:=p) (h:=h1) (m:=m) v1 nz (hn.mono q) hxn hm
 have kM:=fun es nn ve vn h1 (q:HSub h h1) (EI:EmsI h1 ve es) (h65:∀k,k<es.length->(es.getD k eD).ok64) (N:SI h1 vn nn)=>jpv hC (R.mono q) h64 EI h65 N (m:=(m:Nat)) (by unfold In64;omega);have kQ:=fun v sc h1 (S:SI h1 v sc)=>jkR hC S hg;unfold gA plA at*;have q8:loadB true 8 0 (some (.cells [.int .i64 p.d,.int .i64 p.o,.int .i64 p.pb,.int .i64 p.w,.int .i64 p.mn,.int .i64 p.mx,.int .i64 p.nz,vp] true 0))=some (.agg [.int .i64 p.d,.int .i64 p.o,.int .i64 p.pb,.int .i64 p.w,.int .i64 p.mn,.int .i64 p.mx,.int .i64 p.nz,vp]):=rfl;have q7:([.int .i64 p.d,.int .i64 p.o,.int .i64 p.pb,.int .i64 p.w,.int .i64 p.mn,.int .i64 p.mx,.int .i64 p.nz,vp]:List AV)[7]? =some vp:=rfl
 have pone:([.int .i64 p.d,.int .i64 p.o,.int .i64 p.pb,.int .i64 p.w,.int .i64 p.mn,.int .i64 p.mx,.int .i64 p.nz,vp]:List AV).all AV.one=true:=by simp only[List.all_cons,List.all_nil,jfp,v1,Bool.and_self]
 generalize ([.int .i64 p.d,.int .i64 p.o,.int .i64 p.pb,.int .i64 p.w,.int .i64 p.mn,.int .i64 p.mx,.int .i64 p.nz,vp]:List AV)=pc at*;have pcp:HSub h ((h.push (.cells pc true 0)).push (.cells [.int .i64 8,.int .i64 s] true 0)):=(kac _ _).push _;have gp0:((h.push (.cells pc true 0)).push (.cells [.int .i64 8,.int .i64 s] true 0)).get h.size=some (.cells pc true 0):=by exact ze
 have gp1:((h.push (.cells pc true 0)).push (.cells [.int .i64 8,.int .i64 s] true 0)).get (h.size+1)=some (.cells [.int .i64 8,.int .i64 s] true 0):=by exact ze
 have zb:((h.push (.cells pc true 0)).push (.cells [.int .i64 8,.int .i64 s] true 0)).size=h.size+2:=by simp
 obtain⟨hb,hHb⟩:∃hb,(h.push (.cells pc true 0)).push (.cells [.int .i64 8,.int .i64 s] true 0)=hb:=⟨_,rfl⟩;rw[hHb]at pcp gp0 gp1 zb;refine zf 405 B405 hC ?_;simp only[B405,zB];refine zs1 hHb ?_;refine jae (fun j t H=>∃(k:Nat) (E:List (EmitP×AV)),E.map (·.1)=esT p l st k/\Grw hb H 8 (t 13) E.length (emC E)/\(∀q∈E,RI H q.2 q.1.bits/\∀i∈q.2.ids,i∉(t 13).ids)/\t 2=vl/\t 3=vn/\t 4=.int .i64 (m:Nat)/\t 5=.bool st/\t 6=.ptr h.size 0/\t 7=.ptr (h.size+1) 0/\t 15=.int .i64 (k:Nat)/\k<=p.prns.length/\j=p.prns.length-k) (j0:=p.prns.length)
  ⟨0,[],rfl,kaZ _ _,by simp,rfl,rfl,rfl,rfl,rfl,rfl,rfl,by omega,rfl⟩ ?_
 rintro j t H ⟨k,E,hE,A,bE,e2,e3,e4,e5,e6,e7,e15,hk,hj⟩;have g0:=(A.sub.get _ (by omega)).trans gp0;have g1:=(A.sub.get _ (by omega)).trans gp1;have sH:=pcp.trans A.sub;refine zs5 e6 e15 g0 q7 Rl ?_;refine kaf (fun c=>?_) (fun c=>?_)
 ·have hk':k<p.prns.length:=by omega
  have Sk:=S k H sH;have lenE:E.length<=k:=by rw[<-List.length_map (f:=(·.1)),hE];exact jnB _ _ _ _
  have ePart:=kbE (k1:=.i64) (k2:=.i64) hl K (a:=min l.length (3+20*k)) (b:=min l.length (min l.length (3+20*k)+20)) (by omega);obtain⟨vc,sc,Bc⟩:=ePart;have ea:((min l.length (3+20*k):Nat):Int)=min (l.length:Int) (3+20*(k:Int)):=by omega
  have ec:((min l.length (min l.length (3+20*k)+20):Nat):Int)=min (l.length:Int) (min (l.length:Int) (3+20*(k:Int))+20):=by omega
  rw[ea,ec]at sc;have kk:=fun h1 q=>kE k hk' vc Bc h1 q;refine zs2 e2 e15 ?_;refine kaa Sk (zs ?_);refine kaf (fun c1=>?_) (fun c1=>?_)
  ·refine zs1 e15 ?_;refine⟨_,⟨k+1,E,?_,A,bE,e2,e3,e4,e5,e6,e7,rfl,by omega,rfl⟩,by omega⟩;exact hE.trans (js6 c1).symm
  ·refine zs7 e2 e6 e15 L g0 q8 (zI sc @Heap.wf) ?_;refine kad (kk _ (zh sH)) ?_;rintro r h3 ⟨s3,vb,rfl,B,fr⟩;have z3:=s3.size;simp only[Heap.size_reserve]at z3 fr;have hbig:∀i,H.size<=i->H.get i=none:=fun i hi=>by
    cases q:H.get i with
    |none=>rfl
    |some b=>have:=kab q;omega
   have gN11:h3.get (H.size+11)=none:=(s3.get _ (by simp only[Heap.size_reserve];omega)).trans ((Heap.get_reserve _ _ _).trans (hbig _ (by omega)));have o1:=B.one;have h3e:∀i,i<H.size->h3.get i=H.get i:=fun i hi=>(s3.get _ (by simp only[Heap.size_reserve];omega)).trans (Heap.get_reserve _ _ _);have hadd:=jun (p:=p) (l:=l) (st:=st) c1;generalize emitAt p k (cutE l k)=e at*;have hv:∀i∈(t 13).ids,i<H.size:=fun i hi=>(A.ids_lt i hi).2;have fin:∀(Z:Heap) (gZ:∀j,j≠H.size+11->j<h3.size->Z.get j=h3.get j) (zZ:h3.size<=Z.size) (b:Bool) (hb2:st=b) (Ac:Grw hb (snocH Z none (t 13) 8 (emC (E++[(stE b e,vb)]))) 8 (.slice Z.size 0 (E.length+1) (.unk 0)) (E.length+1) (emC (E++[(stE b e,vb)]))),
     (E++[(stE b e,vb)]).map (·.1)=esT p l st (k+1)/\Grw hb (snocH Z none (t 13) 8 (emC (E++[(stE b e,vb)]))) 8 (.slice Z.size 0 (E.length+1) (.unk 0)) (E++[(stE b e,vb)]).length (emC (E++[(stE b e,vb)]))/\
     ∀q∈E++[(stE b e,vb)],RI (snocH Z none (t 13) 8 (emC (E++[(stE b e,vb)]))) q.2 q.1.bits/\∀i∈q.2.ids,i∉(AV.slice Z.size 0 (E.length+1) (.unk 0)).ids:=by
    intro Z gZ zZ b hb2 Ac;subst hb2;refine⟨by rw[List.map_append,hE,hadd];rfl,by rw[List.length_append];exact Ac,fun q hq=>?_⟩;rcases List.mem_append.1 hq with hq|hq
    ·obtain⟨b1,b2⟩:=bE q hq;have b3:=b1.lt_ids;refine⟨b1.off fun i hi=>(jol (by have:=b3 i hi;omega) (b2 i hi)).trans ((gZ i (by have:=b3 i hi;omega) (by have:=b3 i hi;omega)).trans (h3e i (b3 i hi))),fun i hi q=>?_⟩;simp only[AV.ids,List.mem_singleton]at q;have:=b3 i hi;omega
    ·rw[List.mem_singleton]at hq;subst hq;have b3:=B.lt_ids;refine⟨B.off fun i hi=>(jol (by have:=b3 i hi;omega) (fun q=>by have:=fr i hi;have:=hv i q;omega)).trans (gZ i (by have:=fr i hi;omega) (b3 i hi)),fun i hi q=>?_⟩;simp only[AV.ids,List.mem_singleton]at q;have:=b3 i hi;omega
   refine zs2 e5 gN11 ?_;refine kaf (fun c2=>?_) (fun c2=>?_)
   ·subst c2;refine zs2 @cont_slice @jrF ?_;refine ka0 (fun Z hZ=>?_);have zZ:h3.size<=Z.size:=by rw[hZ];refine zs ?_;omega
    have gZ:∀j,j≠H.size+11->j<h3.size->Z.get j=h3.get j:=fun j hj hj2=>by rw[hZ];exact ze
    have hsZ:HSub H Z:=⟨by omega,fun i hi=>(gZ i (by omega) (by omega)).trans (h3e i hi)⟩;clear hZ;have ap:=kaQ (H:=Z) (bytes:=72) (m:=1) (news:=[.int .i64 e.prn,.int .i64 e.dl,.int .i64 0,.int .u32 e.st,.int .u32 e.ph,.int .i64 e.amp,.int .i64 e.ba,vb]) A hsZ (by decide) (by omega) (by simp only[List.all_cons,List.all_nil,jfp,o1,Bool.and_self]);have Ac:=kaH (m:=1) (news:=[.int .i64 e.prn,.int .i64 e.dl,.int .i64 0,.int .u32 e.st,.int .u32 e.ph,.int .i64 e.amp,.int .i64 e.ba,vb]) A hsZ rfl (by omega);have eE:emC E++[.int .i64 e.prn,.int .i64 e.dl,.int .i64 0,.int .u32 e.st,.int .u32 e.ph,.int .i64 e.amp,.int .i64 e.ba,vb]=emC (E++[(stE true e,vb)]):=(joi E (stE true e,vb)).symm
    rw[eE]at ap Ac;have fin:=fin Z gZ zZ true rfl Ac;refine zs2 ap e15 ?_;refine⟨_,⟨k+1,_,fin.1,fin.2.1,fin.2.2,e2,e3,e4,e5,e6,e7,rfl,by omega,rfl⟩,by omega⟩
   ·have c2:st=false:=by simpa using c2
    subst c2;refine zs2 @cont_slice @jrF ?_;refine ka0 (fun Z hZ=>?_);have zZ:h3.size<=Z.size:=by rw[hZ];refine zs ?_;omega
    have gZ:∀j,j≠H.size+11->j<h3.size->Z.get j=h3.get j:=fun j hj hj2=>by rw[hZ];exact ze
    have hsZ:HSub H Z:=⟨by omega,fun i hi=>(gZ i (by omega) (by omega)).trans (h3e i hi)⟩;clear hZ;have ap:=kaQ (H:=Z) (bytes:=72) (m:=1) (news:=[.int .i64 e.prn,.int .i64 e.dl,.int .i64 e.rt,.int .u32 e.st,.int .u32 e.ph,.int .i64 e.amp,.int .i64 e.ba,vb]) A hsZ (by decide) (by omega) (by simp only[List.all_cons,List.all_nil,jfp,o1,Bool.and_self]);have Ac:=kaH (m:=1) (news:=[.int .i64 e.prn,.int .i64 e.dl,.int .i64 e.rt,.int .u32 e.st,.int .u32 e.ph,.int .i64 e.amp,.int .i64 e.ba,vb]) A hsZ rfl (by omega);have eE:emC E++[.int .i64 e.prn,.int .i64 e.dl,.int .i64 e.rt,.int .u32 e.st,.int .u32 e.ph,.int .i64 e.amp,.int .i64 e.ba,vb]=emC (E++[(stE false e,vb)]):=(joi E (stE false e,vb)).symm
    rw[eE]at ap Ac;have fin:=fin Z gZ zZ false rfl Ac;refine zs2 ap e15 ?_;refine⟨_,⟨k+1,_,fin.1,fin.2.1,fin.2.2,e2,e3,e4,e5,e6,e7,rfl,by omega,rfl⟩,by omega⟩
 ·obtain rfl:k=p.prns.length:=by omega
  have lenE:E.length=(esT p l st p.prns.length).length:=by rw[<-hE,List.length_map]
  have es8:=jnB p l st p.prns.length;have EI:EmsI H (t 13) (esT p l st p.prns.length):=⟨E,hE,A.sl,fun q hq=>(bE q hq).1⟩;have eok:=jtu (l:=l) (st:=st) hp pn h64 p.prns.length (Nat.le_refl _);have end1:=jrz (l:=l) pok.nodup hp pn h64 p.prns.length (Nat.le_refl _);rw[<-jrG p l st]at end1;generalize esT p l st p.prns.length=es at*;have nl:=jiM ns p.nz m;have nin:=jrt (l:=ns) (z:=p.nz) nz.1 (k:=m);generalize noiL ns p.nz m=nn at*;have mz:jbN p es nn (m:Nat)=0:=jmg hp (by omega) (fun e he=>(eok e he).1) end1 (by omega) (by omega) nin;have kM:=fun vn h1 (q:HSub H h1) (N:SI h1 vn nn)=>kM es nn (t 13) vn h1 (sH.trans q) (EI.mono q) (fun k hk=>(eok _ (by rw[List.getD_eq_getElem?_getD,List.getElem?_eq_getElem hk];exact List.getElem_mem _)).2.1) N
  rw[mz,if_pos rfl,Int.toNat_natCast]at kM;have sl:=jdf (p:=p) (es:=es) (ns:=nn) (k:=es.length) (m:=m);have sin:∀x∈scnL p es nn es.length m,inQ x.1/\inQ x.2:=by
   intro x hx;obtain⟨i,_,rfl⟩:=List.mem_map.1 hx;have:=jnv pn nin es.length i (fun k hk=>jkC (eok _ (by rw[List.getD_eq_getElem?_getD,List.getElem?_eq_getElem hk];exact List.getElem_mem _)).1);unfold inS at this;unfold inQ;omega
  generalize scnL p es nn es.length m=sc at*;have kQ:=fun v h1 (S:SI h1 v sc)=>kQ v sc h1 S (by omega) sin;refine zs5 e3 e4 e6 g0 q8 ?_;refine kad (kN _ sH) ?_;rintro wn h4 ⟨s4,N⟩;have g04:=(s4.get _ (kab g0)).trans g0;have g14:=(s4.get _ (kab g1)).trans g1;refine zs5 e3 e4 e6 g04 q8 ?_;refine⟨g0.symm,kad (kM wn h4 s4 N) ?_⟩;rintro r h5 ⟨w,rfl,s5,W,fw⟩;have g15:=(s5.get _ (kab g14)).trans g14;have qg:loadB true 2 0 (some (.cells [.int .i64 8,.int .i64 s] true 0))=some (.agg [.int .i64 8,.int .i64 s]):=rfl;refine zs4 @jai.eq_1 e7 g15 qg ?_;refine kad (kQ w h5 W) ?_
  rintro r h6 ⟨s6,wq,rfl,Q,Kq⟩;have q1:=Q.one;refine zs ?_;have sub6:=(s4.trans s5).trans s6;have pu:=kac h6 (.cells [wq,AV.int IntKind.i64 (lostK 8 s sc sc.length)] true 0);exact⟨(sH.trans sub6).trans pu,wq,t 13,by rw[sl],Q.mono pu,EI.mono (sub6.trans pu),.inr Kq⟩
def smallOf(l:List Int):PlanP:=⟨min (5+someOf l 0 3) 6,min (1+someOf l 1 3) 2,1+someOf l 2 3,2,10+someOf l 3 20,10+someOf l 3 20+someOf l 5 3,someOf l 4 200,if someOf l 8 3=0 then[1+someOf l 6 30,1+someOf l 6 30+2]else[1+someOf l 6 30]⟩
theorem jdT(l:List Int):(smallOf l).numsOk/\(smallOf l).o<=2/\((smallOf l).d=5\/(smallOf l).d=6):=by
 have h0:=jah (l:=l) (i:=0) (n:=3) (by omega);have h1:=jah (l:=l) (i:=1) (n:=3) (by omega);have h2:=jah (l:=l) (i:=2) (n:=3) (by omega);have h3:=jah (l:=l) (i:=3) (n:=20) (by omega);have h4:=jah (l:=l) (i:=4) (n:=200) (by omega);have h5:=jah (l:=l) (i:=5) (n:=3) (by omega);unfold PlanP.numsOk smallOf;dsimp only;refine⟨⟨?_,by omega,by omega,by omega,by omega,by omega,by omega⟩,by omega,by omega⟩;rcases(show min (5+someOf l 0 3) 6=5\/min (5+someOf l 0 3) 6=6 by omega)with e|e<;>rw[e]<;>decide
theorem jjM(l:List Int):(smallOf l).prns=[1+someOf l 6 30]\/(smallOf l).prns=[1+someOf l 6 30,1+someOf l 6 30+2]:=by
 unfold smallOf;dsimp only;split
 ·exact .inr rfl
 ·exact .inl rfl
theorem jrH(l:List Int):(smallOf l).err=0:=by
 have h6:=jah (l:=l) (i:=6) (n:=30) (by omega);have hn:=(jdT l).1;have l31:31<=lenN (smallOf l).d:=by
  have hc:=(jdT l).2.2;generalize (smallOf l).d=d at*;rcases hc with e|e<;>rw[e]<;>decide
 unfold PlanP.err;rw[if_pos hn];rcases jjM l with e|e
 ·rw[e,if_neg (by simp),if_neg (by simp)];rw[jbi,if_neg (by omega),if_neg (by simp),jbi]
 ·rw[e,if_neg (by simp),if_neg (by simp)];rw[jbi,if_neg (by omega),if_neg (by simp),jbi,if_neg (by omega),if_neg (by simp;omega),jbi]
theorem js7(l:List Int):(smallOf l).ok64:=by
 have h6:=jah (l:=l) (i:=6) (n:=30) (by omega);have hn:=(jdT l).1;obtain⟨n1,n2,n3,n4,n5,n6,n7⟩:=hn;have hd:=(jdT l).2.2;have hp:=jjM l;refine⟨?_,?_,?_,?_,?_,?_,?_,fun x hx=>?_⟩;all_goals first
  |(unfold In64;omega)
  |skip
 unfold In64;rcases hp with e|e<;>rw[e]at hx<;>simp only[List.mem_cons,List.not_mem_nil,or_false]at hx<;>omega
theorem jrI(hC:Has C TA)(hl:RI h v l)(hx:∀x∈l,In64 x):ACalls C 328 [v] h (fun r h'=>HSub h h'/\∃vp i,r=plA (jeO l) vp/\h.size<=i/\((vp=.slice i 0 1 (.known 1)/\(jeO l).prns=[1+someOf l 6 30]/\h'.get i=some (.cells (ints [1+someOf l 6 30]) true 0))\/(vp=.slice i 0 2 (.unk 0)/\(jeO l).prns=[1+someOf l 6 30,1+someOf l 6 30+2]/\h'.get i=some (.cells (ints [1+someOf l 6 30,1+someOf l 6 30+2]) true 1)))):=by
 have hlt:=hl.lt;have S:=fun(i:Nat) (n:Int) (hn:1<=n/\n<=9223372036854775807) h1 (q:HSub h h1)=>jeM hC (i:=i) (hl.mono q) hx hn;have h0:=jah (l:=l) (i:=0) (n:=3) (by omega);have h1:=jah (l:=l) (i:=1) (n:=3) (by omega);have h2:=jah (l:=l) (i:=2) (n:=3) (by omega);have h3:=jah (l:=l) (i:=3) (n:=20) (by omega);have h4:=jah (l:=l) (i:=4) (n:=200) (by omega);have h5:=jah (l:=l) (i:=5) (n:=3) (by omega);have h6:=jah (l:=l) (i:=6) (n:=30) (by omega);have h7:=jah (l:=l) (i:=7) (n:=2) (by omega);unfold plA jeO;dsimp only
 have S0:=S 0 3 (by omega);have S1:=S 1 3 (by omega);have S2:=S 2 3 (by omega);have S3:=S 3 20 (by omega);have S4:=S 4 200 (by omega);have S5:=S 5 3 (by omega);have S6:=S 6 30 (by omega);have S7:=S 7 2 (by omega);generalize someOf l 0 3=a0 at*;generalize someOf l 1 3=a1 at*;generalize someOf l 2 3=a2 at*;generalize someOf l 3 20=a3 at*;generalize someOf l 4 200=a4 at*;generalize someOf l 5 3=a5 at*;generalize someOf l 6 30=a6 at*;generalize someOf l 7 2=a7 at*;have D:=fun h1=>jnr (h:=h1) hC (x:=a0) (by unfold In64;omega);have ed:a0% 3=a0:=by omega
 rw[ed]at D;generalize hP:(if a0=2/\a7=1 then[1+a6,1+a6+2]else[1+a6])=P;refine zf 328 B328 hC ?_;simp only[B328,zB];refine zs ?_;refine kaa (S0 _ zr) (zs ?_);refine kaa (D _) (zs ?_);refine kaa (S1 _ zr) (zs ?_);refine kaa (S2 _ zr) (zs ?_);refine kaa (S3 _ zr) (zs ?_);refine kaa (S4 _ zr) (zs ?_);refine kaa (S5 _ zr) (zs ?_);refine kaa (S6 _ zr) (zs ?_);by_cases c:a0=2
 ·have c5:5+a0=7:=by omega
  refine zs1 c5 ?_;refine kaa (S7 _ zr) ?_;by_cases c7:a7=1
  ·rw[if_pos ⟨c,c7⟩]at hP;subst hP;refine zs5 c7 @Heap.wf @cont_slice @contB_one @jkO ?_;exact⟨zr,_,_,by rw[c5],by omega,.inr ⟨rfl,by refine zs ?_;rfl⟩⟩
  ·rw[if_neg (fun q=>c7 q.2)]at hP;subst hP;refine zs1 c7 ?_;exact⟨zr,_,_,by rw[c5],by omega,.inl ⟨rfl,by refine zs ?_;rfl⟩⟩
 ·rw[if_neg (fun q=>c q.1)]at hP;subst hP;have c5:¬5+a0=7:=by omega
  refine zs1 c5 ?_;exact⟨zr,_,_,rfl,by omega,.inl ⟨rfl,by refine zs ?_;rfl⟩⟩
theorem jkX(hC:Has C TA)(hl:RI h v l)(hx:∀x∈l,In64 x):ACalls C 404 [v] h (fun r h'=>HSub h h'/\∃vp,r=plA (smallOf l) vp/\RI h' vp (smallOf l).prns):=by
 have h0:=jah (l:=l) (i:=0) (n:=3) (by omega);have h1:=jah (l:=l) (i:=1) (n:=3) (by omega);have h6:=jah (l:=l) (i:=6) (n:=30) (by omega);have S8:=fun H (q:HSub h H)=>jeM hC (h:=H) (i:=8) (n:=3) (hl.mono q) hx (by omega);have kQ:=fun H (q:HSub h H)=>jrI hC (h:=H) (hl.mono q) hx;have qp:=jpB l;unfold plA jeO at kQ;unfold plA smallOf;dsimp only at kQ|-;have lo:=hl.one;generalize someOf l 6 30=a6 at*;generalize someOf l 0 3=a0 at*;generalize someOf l 1 3=a1 at*;generalize someOf l 8 3=a8 at*;have gr:∀(H:Heap) (k:Nat),H.get k=some (.cells [.int .i64 (1+a6),.int .i64 (1+a6+2)] true 1)->RI H (.slice k 0 2 (.unk 0)) [1+a6,1+a6+2]:=fun H k g=>(show GrwI kaY H (.slice k 0 2 (.unk 0)) [1+a6,1+a6+2]from⟨⟨Nat.zero_le _,fun i hi=>absurd hi (Nat.not_lt_zero i)⟩,by simp[ints],by simp,.inr ⟨k,[],Nat.zero_le _,rfl,by rw[List.append_nil];exact g⟩⟩).ri
 generalize hP:(if a8=0 then[1+a6,1+a6+2]else[1+a6])=P;refine zf 404 B404 hC ?_;simp only[B404,zB];refine zs ?_;refine kad (kQ _ zr) ?_;rintro r h1 ⟨s1,vp,i,rfl,hi,hcase⟩;have z1:=s1.size;simp only[Heap.size_push]at z1 hi;have g2:=s1.get h.size (by simp);rw[get_push_eq rfl]at g2;have t1:=(kac h (.cells [.int .i64 0,.int .i64 0,.int .i64 0,.int .i64 0,.int .i64 0,.int .i64 0,.int .i64 0,.nilslice] true 0)).trans s1;rcases hcase with⟨rfl,_,gi⟩|⟨rfl,_,gi⟩
 ·have li:=kab gi;have sl:∀H,jaO H 1 (.slice i 0 1 (.known 1)) none (some (.int .i64 1)) none=some (.slice i 0 1 (.known 1)):=fun H=>rfl;refine zs1 sl ?_;by_cases c8:a8=0
  ·refine kaa (S8 _ (zh t1)) ?_;rw[if_pos c8]at hP;subst hP;refine zs7 @c8 gi @cont_slice @contB_one @jkO @appKB_grow (zI @Heap.wf g2) ?_;exact⟨(zh t1),_,rfl,gr _ _ (by refine zs ?_;rfl)⟩
  ·refine kaa (S8 _ (zh t1)) ?_;rw[if_neg c8]at hP;subst hP;refine zs2 @c8 g2 ?_;exact⟨(zh t1),_,rfl,kah (l:=[1+a6]) (wr:=true) (u:=0) (by exact ze1 gi) ⟨rfl,by simp⟩ (Nat.le_refl _)⟩
 ·have li:=kab gi;have sl:∀b,jaO (h1.push b) 1 (.slice i 0 2 (.unk 0)) none (some (.int .i64 1)) none=some (.slice i 0 1 (.unk 0)):=fun b=>by
   have g:(h1.push b).get i=some (.cells (ints [1+a6,1+a6+2]) true 1):=(get_push_lt li).trans gi;simp only[jaO,g];rfl
  have uB:∀(H:Heap) (k:Nat),H.get k=none->k<H.size->appUB H (some k) 1 8 i 0 1 0 1 [.int .i64 (1+a6+2)] (some (.cells (ints [1+a6,1+a6+2]) true 1))=some (.slice k 0 2 (.unk 0),(H.put i .dead).put k (.cells (ints [1+a6,1+a6+2]) true 1)):=fun H k g l=>by
   have r:H.room (some k)=true:=by simp[Heap.room,g,l]
   exact if_pos ⟨rfl,rfl,by simp[ints],rfl,by omega,r,by omega⟩
  have gn:∀b b2,(((h1.push b).reserve 11).put (h1.size+1+7) b2).get (h1.size+1+8)=none:=fun b b2=>by
   rw[get_put_ne (by omega),Heap.get_reserve,kap,if_neg (by omega)];exact h1.wf _ (by omega)
  have gl:∀b b2,h1.size+1+8<(((h1.push b).reserve 11).put (h1.size+1+7) b2).size:=fun b b2=>by
   simp only[Heap.size_put,Heap.size_reserve,Heap.size_push];omega
  have R2:∀H:Heap,H.get i=some (.cells (ints [1+a6,1+a6+2]) true 1)->RI H (.slice i 0 1 (.unk 0)) [1+a6]:=fun H g=>by
   obtain⟨v',e,R⟩:=SL.takeK (kk:=.i64) (gr H i g) (k:=1) (by simp);have e':=e H (kag H);have e2:jaO H 1 (.slice i 0 2 (.unk 0)) none (some (.int .i64 1)) none=some (.slice i 0 1 (.unk 0)):=by
    simp only[jaO,g];rfl
   rw[show(.int .i64 ((1:Nat):Int):AV)=.int .i64 1 from rfl,e2]at e';cases e';exact R
  refine zs1 sl ?_;by_cases c8:a8=0
  ·refine kaa (S8 _ (zh t1)) ?_;rw[if_pos c8]at hP;subst hP;simp-implicitDefEqProofs (disch:=first|exact zd|fail) only[↓wpPre,jbx,jby,Int.reduceToNat,Int.reducePow,Int.reduceMul,Int.reduceAdd,Int.reduceSub,Int.reduceNeg,Nat.reduceAdd,Nat.reduceMul,Nat.reducePow,Int.reduceLT,Int.reduceLE,Int.reduceEq,Nat.reduceEqDiff,c8,gi,cont_slice,contB_one,jkO,appKB_grow,appUB_grow,app_unk,uB _ _ (gn _ _) (gl _ _),Heap.wf,g2];exact⟨(zh t1),_,rfl,gr _ _ (by refine zs ?_;rfl)⟩
  ·refine kaa (S8 _ (zh t1)) ?_;rw[if_neg c8]at hP;subst hP;refine zs2 @c8 g2 ?_;exact⟨(zh t1),_,rfl,R2 _ (by exact ze1 gi)⟩
theorem jtv{s:List (Int×Int)}{c:List Int}{a w T:Int}:∀M:Nat,(∀k,k<M->wpI s c (a+(k:Nat)*w)<=T)->pwK s c a w M<=T*(M:Int)
 |0,_=>by unfold pwK;simp
 |M+1,h=>by
  have ih:=jtv M (fun k hk=>h k (by omega));have:=h M (by omega);have e:T*((M+1:Nat):Int)=T*(M:Int)+T:=by rw[Int.natCast_add,Int.mul_add];simp
  unfold pwK;omega
theorem jmj{p:PlanP}{es:List EmitP}{Q:List (Int×Int)}{prn thr:Int}{n m b M:Nat}(A:AcOk p Q prn)(hn:p.size=(n:Nat))(hm:4*n<=m)(hb:b<n)(hM:M<=3)
  (det:∀a:Nat,(a:Int)+p.size<=m->(a:Int)<4*p.size->(∀e∈es,e.prn=prn->alB p e a=false)->(sumP Q (sampL p.d prn p.o.toNat) a).1*(sumP Q (sampL p.d prn p.o.toNat) a).1+(sumP Q (sampL p.d prn p.o.toNat) a).2*(sumP Q (sampL p.d prn p.o.toNat) a).2<=thr*thr)
  (al:∀w,w<M->∀e∈es,e.prn=prn->alB p e ((b:Int)+(w:Nat)*(n:Nat))=false):claimB thr (pwK Q (sampL p.d prn p.o.toNat) (b:Nat) p.size M) M=false:=by
 unfold claimB;rw[decide_eq_false_iff_not,Int.not_lt];refine jtv M fun w hw=>?_;have w2:w*n<=2*n:=Nat.mul_le_mul_right n (by omega);have ea:((b:Int)+(w:Nat)*p.size)=((b+w*n:Nat):Int):=by rw[hn,Int.natCast_add,Int.natCast_mul]
 have q:=(jix (A.win ((b:Int)+(w:Nat)*p.size))).1;unfold wpI;rw[q,ea];refine det _ (by rw[hn];omega) (by rw[hn];omega) fun e he hp=>?_;have:=al w hw e he hp;rw[hn]at ea;rw[<-ea];exact this
theorem js8:((List.range 64).all fun k=>decide (15893<=(carr k).1*(carr k).1+(carr k).2*(carr k).2))=true:=by decide+kernel
theorem js9{ph:Int}(h:U32 ph):15893<=(carP ph).1*(carP ph).1+(carP ph).2*(carP ph).2:=by
 unfold U32 at h;have:=List.all_eq_true.1 js8 (ph/67108864).toNat (List.mem_range.2 (by omega));simpa[carP]using this
theorem jpE:((List.range 64).all fun k=>decide ((carr k).1*(carr k).1+(carr k).2*(carr k).2<=16384))=true:=by decide+kernel
theorem jpF{ph:Int}(h:U32 ph):(carP ph).1*(carP ph).1+(carP ph).2*(carP ph).2<=16384:=by
 unfold U32 at h;have:=List.all_eq_true.1 jpE (ph/67108864).toNat (List.mem_range.2 (by omega));simpa[carP]using this
theorem jrJ{x y r:Int}(h:nrm x y r):nrm (-x) (-y) r:=⟨h.1,by rw[Int.neg_mul_neg,Int.neg_mul_neg];exact h.2⟩
theorem jon{v:Nat->Int×Int}{c:List Int}{g x y:Int}:∀k:Nat,(∀i:Nat,i<k->v i=(g*c.getD i 0*x,g*c.getD i 0*y))->(∀i:Nat,i<k->c.getD i 0=1\/c.getD i 0= -1)->sumW c v k=(g*k*x,g*k*y)
 |0,_,_=>by simp[sumW]
 |k+1,h,hc=>by
  rw[sumW,jon k (fun i hi=>h i (by omega)) (fun i hi=>hc i (by omega)),h k (by omega)];have q:=hc k (by omega);dsimp only;rcases q with e|e<;>rw[e]<;>refine Prod.ext ?_ ?_<;>simp only<;>push_cast<;>grind
theorem jmk{p:Int}{o:Nat}(ho:1<=o)(h:i<lenN d*o):(sampL d p o).getD i 0=1\/(sampL d p o).getD i 0= -1:=by
 rw[jjJ ho h];exact jsI (by rw[Nat.div_lt_iff_lt_mul (by omega)];exact h)
theorem juo{e:EmitP}(ok:EmOk p e)(n:Int):nrm (atV p e n).1 (atV p e n).2 (128*e.amp):=by
 have cp:=jnq ok (ok.per n).1;have bb:=ok.bit (e.pl p n);have cl:=jpF (jeb e.ph e.st (e.pl p n));have a0:0<=e.amp:=by
  have:=ok.en.2.2.1;have:=ok.pn.2.2.2.2.1;omega
 unfold atV;generalize chipI p e (n-e.sta p (e.pl p n))=x at*;generalize bitI p e (e.pl p n)=y at*;generalize carP (phI e.ph e.st (e.pl p n))=cc at*;obtain⟨c1,c2⟩:=cc;generalize e.amp=g at*;dsimp only at*;refine⟨by omega,?_⟩;have sq:(g*x*(1-2*y))*(g*x*(1-2*y))=g*g:=by
  rcases cp with rfl|rfl<;>rcases bb with rfl|rfl<;>grind
 have e1:g*x*(1-2*y)*c1*(g*x*(1-2*y)*c1)+g*x*(1-2*y)*c2*(g*x*(1-2*y)*c2)=(g*x*(1-2*y))*(g*x*(1-2*y))*(c1*c1+c2*c2):=by grind
 have e2:128*g*(128*g)=g*g*16384:=by grind
 rw[e1,e2,sq];exact Int.mul_le_mul_of_nonneg_left cl (sq_nn g)
theorem jta{p:PlanP}{e:EmitP}(ok:EmOk p e)(K:Int){A:List Int}(hA:A=sampL p.d e.prn p.o.toNat){r:Int}(h:nrm (sumW A (fun i=>atV p e (e.sta p K+(i:Nat))) A.length).1 (sumW A (fun i=>atV p e (e.sta p K+(i:Nat))) A.length).2 r):
  126*e.amp*(p.size-2)<=r:=by
 have sz:=jal ok.pn;have po:=ok.pn.2.1;have al:(A.length:Int)=p.size:=by rw[hA,jaF,sz.2.2]
 have l31:31<=p.size:=by
  have l:=jbk ok.pn.1;unfold PlanP.size;have:=Int.mul_le_mul (show(31:Int)<=lenN p.d by have:=ok.pn.1;unfold lenOk at this;omega) po.1 (by omega) (by omega);omega
 obtain⟨n,hn⟩:∃n:Nat,A.length=n+1:=⟨A.length-1,by omega⟩;have a0:1<=e.amp:=by
  have:=ok.en.2.2.1;have:=ok.pn.2.2.2.2.1;omega
 have stp:=(jkB (dl:=e.dl) (sz:=p.size) (k:=K) ok.en.2.1).1;have own:=jon (v:=fun i=>atV p e (e.sta p K+(i:Nat))) (c:=A) (g:=e.amp*(1-2*bitI p e K)) (x:=(carP (phI e.ph e.st K)).1) (y:=(carP (phI e.ph e.st K)).2) n
  (fun i hi=>by
   have l1:e.sta p K+(i:Nat)<e.sta p (K+1):=by unfold EmitP.sta at*;omega
   rw[at_in ok (K:=K) (by omega) l1,show min (e.sta p K+(i:Nat)-e.sta p K) (p.size-1)=(i:Nat)by omega,Int.toNat_natCast,hA])
  (fun i hi=>by rw[hA];exact jmk (by omega) (by rw[<-jaF (d:=p.d) (p:=e.prn),<-hA];omega))
 have lst:=juo ok (e.sta p K+(n:Nat));have An:A.getD n 0=1\/A.getD n 0= -1:=by rw[hA];exact jmk (by omega) (by rw[<-jaF (d:=p.d) (p:=e.prn),<-hA];omega)
 rw[hn,sumW,own]at h;dsimp only at h;generalize atV p e (e.sta p K+(n:Nat))=z at*;have bb:=ok.bit K;have cb:=js9 (jeb e.ph e.st K);generalize bitI p e K=y at*;generalize carP (phI e.ph e.st K)=cc at*;obtain⟨c1,c2⟩:=cc;dsimp only at*;have lz:nrm (-(A.getD n 0*z.1)) (-(A.getD n 0*z.2)) (128*e.amp):=by
  rcases An with q|q<;>rw[q]
  ·rw[Int.one_mul,Int.one_mul];exact jrJ lst
  ·rw[Int.neg_one_mul,Int.neg_one_mul,Int.neg_neg,Int.neg_neg];exact lst
 have tot:=jiR h lz;rw[Int.add_neg_cancel_right,Int.add_neg_cancel_right]at tot;have t2:=tot.2;have hs:p.size=n+1:=by omega
 rw[hs];rcases Int.lt_or_le r (126*e.amp*((n:Int)+1-2))with q|q
 ·exfalso;generalize e.amp=g at*;have r0:=h.1;have n30:(30:Int)<=n:=by omega
  generalize (n:Int)=N at*;have le:r+128*g<=g*(126*N+2):=by
   have x1:126*g*(N+1-2)=126*(g*N)-126*g:=by grind
   have x2:g*(126*N+2)=126*(g*N)+2*g:=by grind
   omega
  have m1:=jfC (x:=r+128*g) (by omega) le;have x3:g*(1-2*y)*N*c1*(g*(1-2*y)*N*c1)+g*(1-2*y)*N*c2*(g*(1-2*y)*N*c2)=g*g*(N*N*(c1*c1+c2*c2)):=by
   rcases bb with rfl|rfl<;>grind
  have x4:g*(126*N+2)*(g*(126*N+2))=g*g*((126*N+2)*(126*N+2)):=by grind
  rw[x3]at t2;rw[x4]at m1;have gg:0<g*g:=Int.mul_pos (by omega) (by omega);have fin:=Int.le_of_mul_le_mul_left (Int.le_trans t2 m1) gg;have y1:=Int.mul_le_mul_of_nonneg_left cb (show 0<=N*N from sq_nn N);have y2:(126*N+2)*(126*N+2)=15876*(N*N)+504*N+4:=by grind
  have y3:=Int.mul_le_mul_of_nonneg_right n30 (show 0<=N by omega);omega
 ·exact q
theorem jrK{u:Nat->Int×Int}{p:PlanP}{es:List EmitP}{a:Int}{A:List Int}{n i0:Nat}{r:Nat->Int}{t:Int}(h0:nrm (sumW A u n).1 (sumW A u n).2 t)
  (hr:∀k,k<es.length->k≠i0->nrm (sumW A (fun i=>atV p (es.getD k eD) (a+(i:Nat))) n).1 (sumW A (fun i=>atV p (es.getD k eD) (a+(i:Nat))) n).2 (r k)):
  ∀k,k<=es.length->nrm ((sumW A (mixV u p es a k) n).1-(if i0<k then(sumW A (fun i=>atV p (es.getD i0 eD) (a+(i:Nat))) n).1 else 0)) ((sumW A (mixV u p es a k) n).2-(if i0<k then(sumW A (fun i=>atV p (es.getD i0 eD) (a+(i:Nat))) n).2 else 0)) (t+sgK (fun k=>if k=i0 then 0 else r k) k)
 |0,_=>by
  have e:sumW A (mixV u p es a 0) n=sumW A u n:=jcv n (fun i _=>rfl);rw[e,sgK,Int.add_zero,if_neg (by omega),if_neg (by omega),Int.sub_zero,Int.sub_zero];exact h0
 | k + 1, hk => by
  have ih:=jrK h0 hr k (by omega);have e:sumW A (mixV u p es a (k+1)) n=addP (sumW A (mixV u p es a k) n) (sumW A (fun i=>atV p (es.getD k eD) (a+(i:Nat))) n):=by
   rw[<-jkU];exact jcv n (fun i _=>rfl)
  rw[e,sgK,<-Int.add_assoc];rcases Nat.lt_trichotomy i0 k with c|c|c
  ·rw[if_pos c,if_pos c]at ih;rw[if_pos (show i0<k+1 by omega),if_pos (show i0<k+1 by omega),if_neg (show ¬k=i0 by omega)];have q:=jiR ih (hr k (by omega) (by omega));unfold addP;dsimp only at q|-;have e1:∀a b c:Int,a-b+c=a+c-b:=fun a b c=>by omega
   rwa [e1,e1]at q
  ·subst c;rw[if_neg (show ¬i0<i0 by omega),if_neg (show ¬i0<i0 by omega),Int.sub_zero,Int.sub_zero]at ih;rw[if_pos (show i0<i0+1 by omega),if_pos (show i0<i0+1 by omega),if_pos rfl,Int.add_zero];unfold addP;dsimp only
   rwa [Int.add_sub_cancel,Int.add_sub_cancel]
  ·rw[if_neg (show ¬i0<k by omega),if_neg (show ¬i0<k by omega),Int.sub_zero,Int.sub_zero]at ih;rw[if_neg (show ¬i0<k+1 by omega),if_neg (show ¬i0<k+1 by omega),if_neg (show ¬k=i0 by omega),Int.sub_zero,Int.sub_zero];exact jiR ih (hr k (by omega) (by omega))
theorem jrL{r:Nat->Int}{i0:Nat}:∀n,sgK (fun k=>if k=i0 then 0 else r k) n=sgK r n-(if i0<n then r i0 else 0)
 |0=>by simp[sgK]
 |n+1=>by
  rw[sgK,sgK,jrL n];rcases Nat.lt_trichotomy i0 n with c|c|c
  ·rw[if_pos c,if_pos (show i0<n+1 by omega),if_neg (show ¬n=i0 by omega)];omega
  ·subst c;rw[if_neg (show ¬i0<i0 by omega),if_pos rfl,if_pos (show i0<i0+1 by omega)];omega
  ·rw[if_neg (show ¬i0<n by omega),if_neg (show ¬n=i0 by omega),if_neg (show ¬i0<n+1 by omega)];omega
theorem jup{p:PlanP}{s prn:Int}{es:List EmitP}{nn:List (Int×Int)}{a m:Nat}(ok:PlanOk p)(hs:0<=s/\s<=30)(nin:∀x∈nn,inS p.nz x)
  (hl:lostK 8 s (scnL p es nn es.length m) m=0) (ha:(a:Int)+p.size<=m):
  ∃u,nrm (sumW (sampL p.d prn p.o.toNat) u (sampL p.d prn p.o.toNat).length).1 (sumW (sampL p.d prn p.o.toNat) u (sampL p.d prn p.o.toNat).length).2 (humI p s)/\sumW (sampL p.d prn p.o.toNat) (mixV u p es a es.length) (sampL p.d prn p.o.toNat).length=
   (2^s.toNat*(sumP (qntL 8 s (scnL p es nn es.length m)) (sampL p.d prn p.o.toNat) a).1,2^s.toNat*(sumP (qntL 8 s (scnL p es nn es.length m)) (sampL p.d prn p.o.toNat) a).2):=by
 have pn:=ok.nums;have nz:=pn.2.2.2.2.2.2;have sz:=jal pn;have pw:=jcP hs;have A1:=jaZ p.d prn p.o.toNat;have Al:((sampL p.d prn p.o.toNat).length:Int)=p.size:=by rw[jaF,sz.2.2]
 have ql:(qntL 8 s (scnL p es nn es.length m)).length=m:=by unfold qntL;rw[List.length_map,jdf]
 have SK:=jrC (q:=qntL 8 s (scnL p es nn es.length m)) (c:=sampL p.d prn p.o.toNat) (a:=a) (P:=2^s.toNat) (sampL p.d prn p.o.toNat).length (by omega);have cr:0<=coarI s:=by unfold coarI;omega
 have qat:∀i,i<(sampL p.d prn p.o.toNat).length->inS (coarI s) (2^s.toNat*((qntL 8 s (scnL p es nn es.length m)).getD (a+i) (0,0)).1-(scnV p es nn es.length (a+i)).1,2^s.toNat*((qntL 8 s (scnL p es nn es.length m)).getD (a+i) (0,0)).2-(scnV p es nn es.length (a+i)).2):=by
  intro i hi;have him:a+i<m:=by omega
  have e1:(scnL p es nn es.length m).getD (a+i) (0,0)=scnV p es nn es.length (a+i):=by
   simp[scnL,List.getD_eq_getElem?_getD,him]
  have e2:(qntL 8 s (scnL p es nn es.length m)).getD (a+i) (0,0)=(lvlI 8 s (scnV p es nn es.length (a+i)).1,lvlI 8 s (scnV p es nn es.length (a+i)).2):=by
   simp[qntL,scnL,List.getD_eq_getElem?_getD,him]
  have lo:=jgS hl (a+i) him;rw[e1]at lo;rw[e2];generalize scnV p es nn es.length (a+i)=z at*;have r1:=jhA (x:=z.1) hs;have r2:=jhA (x:=z.2) hs;have g1:lvlI 8 s z.1=rndI z.1 s:=by
   have:=of_decide_eq_false lo.1;unfold lvlI;rw[if_neg (by omega),if_neg (by omega)]
  have g2:lvlI 8 s z.2=rndI z.2 s:=by
   have:=of_decide_eq_false lo.2;unfold lvlI;rw[if_neg (by omega),if_neg (by omega)]
  unfold inS;dsimp only;rw[g1,g2];omega
 have U0:=fun i (hi:i<(sampL p.d prn p.o.toNat).length)=>jkr (show inS p.nz (nn.getD (a+i) (0,0))by
  rcases Nat.lt_or_ge (a+i) nn.length with c|c
  ·exact nin _ (jcg c)
  ·rw[List.getD_eq_getElem?_getD,List.getElem?_eq_none c];unfold inS;simp only[Option.getD_none];omega) (qat i hi)
 have box:=jkV A1 (show 0<=p.nz+coarI s by omega) (sampL p.d prn p.o.toNat).length U0;have h0:=jrD (H:=humI p s) (Int.mul_nonneg (show 0<=p.nz+coarI s by omega) (by omega)) box (by
  unfold humI;rw[Al];have e:3*p.size*(p.nz+coarI s)=3*((p.nz+coarI s)*p.size):=by grind
  rw[e];generalize (p.nz+coarI s)*p.size=K;omega)
 refine⟨_,h0,?_⟩;unfold sumP;rw[SK];refine jcv _ fun i hi=>?_;rw[jnA];unfold addP;refine Prod.ext ?_ ?_<;>(dsimp only;omega)
theorem jpG{p:PlanP}{s:Int}{es:List EmitP}{nn:List (Int×Int)}{a m i0:Nat}{K:Int}(ok:PlanOk p)(hs:0<=s/\s<=30)(eok:∀e∈es,EmOk p e)(nd:(es.map (·.prn)).Nodup)(nin:∀x∈nn,inS p.nz x)(hi:i0<es.length)
  (hl:lostK 8 s (scnL p es nn es.length m) m=0) (ha:(a:Int)+p.size<=m) (hK:(a:Int)=(es.getD i0 eD).sta p K) (hsu:sureB p s (es.getD i0 eD).prn=true)
  (hsum:sgK (fun k=>sumI p.d p.o (es.getD i0 eD).prn (es.getD k eD).prn) es.length<=p.oth (es.getD i0 eD).prn+sumI p.d p.o (es.getD i0 eD).prn (es.getD i0 eD).prn):
  thrI p s (es.getD i0 eD).prn*thrI p s (es.getD i0 eD).prn<(sumP (qntL 8 s (scnL p es nn es.length m)) (sampL p.d (es.getD i0 eD).prn p.o.toNat) a).1*(sumP (qntL 8 s (scnL p es nn es.length m)) (sampL p.d (es.getD i0 eD).prn p.o.toNat) a).1+(sumP (qntL 8 s (scnL p es nn es.length m)) (sampL p.d (es.getD i0 eD).prn p.o.toNat) a).2*(sumP (qntL 8 s (scnL p es nn es.length m)) (sampL p.d (es.getD i0 eD).prn p.o.toNat) a).2:=by
 have pn:=ok.nums;have sz:=jal pn;have pw:=jcP hs;have mem:∀k,k<es.length->es.getD k eD∈es:=fun k hk=>by rw[List.getD_eq_getElem?_getD,List.getElem?_eq_getElem hk];exact List.getElem_mem _
 have dis:∀k,k<es.length->k≠i0->(es.getD i0 eD).prn≠(es.getD k eD).prn:=fun k hk ne q=>by
  rw[List.getD_eq_getElem?_getD,List.getD_eq_getElem?_getD,List.getElem?_eq_getElem hk,List.getElem?_eq_getElem hi,Option.getD_some,Option.getD_some]at q;have n1:=List.pairwise_iff_getElem.1 nd;rcases Nat.lt_or_gt_of_ne ne with c|c
  ·exact n1 k i0 (by simpa using hk) (by simpa using hi) c (by simpa using q.symm)
  ·exact n1 i0 k (by simpa using hi) (by simpa using hk) c (by simpa using q)
 obtain⟨u,h0,e5⟩:=jup (prn:=(es.getD i0 eD).prn) ok hs nin hl ha;have oke:=eok _ (mem i0 hi);have Al:((sampL p.d (es.getD i0 eD).prn p.o.toNat).length:Int)=p.size:=by rw[jaF,sz.2.2]
 have mw:=jrK (p:=p) (es:=es) (a:=(a:Int)) (i0:=i0) (r:=fun k=>128*p.mx*sumI p.d p.o (es.getD i0 eD).prn (es.getD k eD).prn) h0 (fun k hk ne=>by
  have okk:=eok _ (mem k hk);have dk:=dis k hk ne;generalize (es.getD i0 eD).prn=prn at*;generalize es.getD k eD=e at*;have w:=jjK okk (A:=sampL p.d prn p.o.toNat) Al (a:Int) 0 (.inl rfl);have sr:=(jbB pn prn e.prn).1;have am:e.amp<=p.mx:=okk.en.2.2.1.2;have a0:0<=e.amp:=by
   have:=okk.en.2.2.1;have:=pn.2.2.2.2.1;omega
  have es:sumI p.d p.o prn e.prn=greatI (sampL p.d prn p.o.toNat) (sampL p.d e.prn p.o.toNat) 0:=by unfold sumI;rw[if_neg dk]
  rw[<-es]at w;have aS:=Int.mul_nonneg a0 sr;have le:128*(e.amp*sumI p.d p.o prn e.prn)<=128*p.mx*sumI p.d p.o prn e.prn:=by
   have:=Int.mul_le_mul_of_nonneg_right am sr;rw[Int.mul_assoc];omega
  refine jkT (r:=128*(e.amp*sumI p.d p.o prn e.prn)) ⟨by omega,?_⟩ le;have e3:128*(e.amp*sumI p.d p.o prn e.prn)*(128*(e.amp*sumI p.d p.o prn e.prn))=16384*(e.amp*sumI p.d p.o prn e.prn*(e.amp*sumI p.d p.o prn e.prn)):=by grind
  rw[e3];exact w) es.length (Nat.le_refl _)
 rw[if_pos hi,if_pos hi,e5,jrL,if_pos hi,jnz]at mw;have own:=fun r=>jta oke K (A:=sampL p.d (es.getD i0 eD).prn p.o.toNat) (r:=r) rfl;rw[<-hK]at own;have tm:=jnl ok hs (es.getD i0 eD).prn;have su:=of_decide_eq_true hsu;have amn:p.mn<=(es.getD i0 eD).amp:=oke.en.2.2.1.1;generalize (es.getD i0 eD).amp=g at*;generalize sumP (qntL 8 s (scnL p es nn es.length m)) (sampL p.d (es.getD i0 eD).prn p.o.toNat) a=X at*;generalize sumW (sampL p.d (es.getD i0 eD).prn p.o.toNat) (fun i=>atV p (es.getD i0 eD) ((a:Int)+(i:Nat))) (sampL p.d (es.getD i0 eD).prn p.o.toNat).length=O at*
 generalize sgK (fun k=>sumI p.d p.o (es.getD i0 eD).prn (es.getD k eD).prn) es.length=S at*;have l31:31<=p.size:=by
  have l:=jbk ok.nums.1;unfold PlanP.size;have:=Int.mul_le_mul (show(31:Int)<=lenN p.d by have:=ok.nums.1;unfold lenOk at this;omega) ok.nums.2.1.1 (by omega) (by omega);omega
 unfold floorI at su;have mxs:=Int.mul_le_mul_of_nonneg_left hsum (show 0<=128*p.mx by have:=pn.2.2.2.2.1;omega);rw[Int.mul_add]at mxs;generalize thrI p s (es.getD i0 eD).prn=t at*;generalize (2:Int)^s.toNat=P at*;dsimp only at mw;rcases Int.lt_or_le (t*t) (X.1*X.1+X.2*X.2)with q|q
 ·exact q
 ·exfalso;have e7:t*P*(t*P)=P*P*(t*t):=by grind
  have e6: -(P*X.1)* -(P*X.1)+ -(P*X.2)* -(P*X.2)=P*P*(X.1*X.1+X.2*X.2):=by grind
  have tx:nrm (-(P*X.1)) (-(P*X.2)) (t*P):=⟨tm.1,by rw[e6,e7];exact Int.mul_le_mul_of_nonneg_left q (sq_nn P)⟩;have ad:=jrJ (jiR mw tx);have f1: -(P*X.1-O.1+ -(P*X.1))=O.1:=by omega
  have f2: -(P*X.2-O.2+ -(P*X.2))=O.2:=by omega
  rw[f1,f2]at ad;have o2:=own _ ad;have m3:=Int.mul_le_mul_of_nonneg_right (show 126*p.mn<=126*g by omega) (show 0<=p.size-2 by omega);omega
theorem jtw{s:List (Int×Int)}{c:List Int}{a w T:Int}:∀M:Nat,(∀k,k<M->T<wpI s c (a+(k:Nat)*w))->T*(M:Int)+M<=pwK s c a w M
 |0,_=>by unfold pwK;simp
 |M+1,h=>by
  have ih:=jtw M (fun k hk=>h k (by omega));have:=h M (by omega);have e:T*((M+1:Nat):Int)=T*(M:Int)+T:=by rw[Int.natCast_add,Int.mul_add];simp
  unfold pwK;omega
theorem jrM{e:EmitP}(hr:e.rt=0)(K:Int):e.sta p K=e.dl+K*p.size:=by
 unfold EmitP.sta stI;rw[hr];simp
theorem jtx{p:PlanP}{sh prn:Int}{s:List (Int×Int)}{x:Int}{j:Nat}(h:(0<=x-p.o+(j:Nat)/\x-p.o+(j:Nat)+p.size<=s.length)/\clmW p sh prn s (x-p.o+(j:Nat))=true):∀J:Nat,j<J->cfmK p sh prn s x J=true
 |0,hj=>absurd hj (Nat.not_lt_zero _)
 | J + 1, hj => by
  rw[show cfmK p sh prn s x (J+1)=(cfmK p sh prn s x J||(decide (0<=x-p.o+(J:Nat)/\x-p.o+(J:Nat)+p.size<=s.length)&&clmW p sh prn s (x-p.o+(J:Nat))))from rfl];rcases Nat.lt_or_ge j J with q|q
  ·rw[jtx h J q];rfl
  ·obtain rfl:j=J:=by omega
   rw[decide_eq_true h.1,h.2];simp
theorem juq{st:Bool}(ok:PlanOk p)(hin:prn∈p.prns):sgK (fun i=>sumI p.d p.o prn ((esT p l st p.prns.length).getD i eD).prn) (esT p l st p.prns.length).length<=p.oth prn+sumI p.d p.o prn prn:=by
 have q:=jrE (l:=l) ok hin p.prns.length (Nat.le_refl _);rw[List.take_length,if_pos hin]at q;have le:(esT p l st p.prns.length).length=(esK p l p.prns.length).length:=by unfold esT;rw[List.length_map]
 rw[le];refine Int.le_trans (Int.le_of_eq (jiQ fun i hi=>?_)) q;have e:((esT p l st p.prns.length).getD i eD).prn=((esK p l p.prns.length).getD i eD).prn:=by
  unfold esT;rw[List.getD_eq_getElem?_getD,List.getD_eq_getElem?_getD,List.getElem?_map,List.getElem?_eq_getElem hi];rfl
 rw[e]
structure FindOk (p:PlanP) (s:Int) (es:List EmitP) (Q:List (Int×Int)) (n:Nat):Prop where
 ok:PlanOk p
 hn:p.size=(n:Nat)
 ho:p.o<=p.size
 len:Q.length=6*n
 ac:∀prn∈p.prns,AcOk p Q prn
 em:∀e∈es,EmOk p e/\e.rt=0/\e.prn∈p.prns
 nd:(es.map (·.prn)).Nodup
 det:∀(prn:Int) (a:Nat),prn∈p.prns->(a:Int)+p.size<=(6*n:Nat)->(a:Int)<4*p.size->(∀e∈es,e.prn=prn->alB p e a=false)->(sumP Q (sampL p.d prn p.o.toNat) a).1*(sumP Q (sampL p.d prn p.o.toNat) a).1+(sumP Q (sampL p.d prn p.o.toNat) a).2*(sumP Q (sampL p.d prn p.o.toNat) a).2<=thrI p s prn*thrI p s prn
 fin:∀(i:Nat) (a:Nat) (K:Int),i<es.length->(a:Int)+p.size<=(6*n:Nat)->(a:Int)=(es.getD i eD).sta p K->sureB p s (es.getD i eD).prn=true->thrI p s (es.getD i eD).prn*thrI p s (es.getD i eD).prn<(sumP Q (sampL p.d (es.getD i eD).prn p.o.toNat) a).1*(sumP Q (sampL p.d (es.getD i eD).prn p.o.toNat) a).1+(sumP Q (sampL p.d (es.getD i eD).prn p.o.toNat) a).2*(sumP Q (sampL p.d (es.getD i eD).prn p.o.toNat) a).2
section
variable {p : PlanP} {s : Int} {es : List EmitP} {Q : List (Int × Int)} {n M : Nat}
theorem FindOk.at(F:FindOk p s es Q n)(hi:i<es.length):es.getD i eD∈es:=by
 rw[List.getD_eq_getElem?_getD,List.getElem?_eq_getElem hi];exact List.getElem_mem _
theorem FindOk.big(F:FindOk p s es Q n){i:Nat}{K a:Int}(hi:i<es.length)(hK:a=(es.getD i eD).dl+K*p.size)(h0:0<=a)(h1:a+p.size<=6*n)(su:sureB p s (es.getD i eD).prn=true):
  thrI p s (es.getD i eD).prn*thrI p s (es.getD i eD).prn<wpI Q (sampL p.d (es.getD i eD).prn p.o.toNat) a:=by
 have e:=F.em _ (F.at hi);have A:=F.ac _ e.2.2;have q:=(jix (A.win a)).1;have f:=F.fin i a.toNat K hi (by omega) (by rw[jrM e.2.1,<-hK];omega) su;rw[Int.toNat_of_nonneg h0]at f;unfold wpI;rw[q];exact f
theorem FindOk.hit(F:FindOk p s es Q n)(prn:Int)(hM:1<=M/\M<=3)(n0:0<n):∃b:Nat,b<n/\hitQ p Q 0 (M:Nat) prn=(prn,(b:Int),pwK Q (sampL p.d prn p.o.toNat) (b:Nat) p.size M,(M:Int))/\∀i:Nat,i<n->pwK Q (sampL p.d prn p.o.toNat) (i:Nat) p.size M<=pwK Q (sampL p.d prn p.o.toNat) (b:Nat) p.size M:=by
 have nn:p.size.toNat=n:=by have:=F.hn;omega
 have b1:=jnx (scnI p Q prn 0 (M:Nat)) n;have b3:=jiw (scnI p Q prn 0 (M:Nat)) n;have gg:∀i:Nat,i<n->(scnI p Q prn 0 (M:Nat)).getD i 0=pwK Q (sampL p.d prn p.o.toNat) (i:Nat) p.size M:=fun i hi=>by
  unfold scnI;rw[jga (by omega),Int.zero_add,Int.toNat_natCast]
 have hb:bstK (scnI p Q prn 0 (M:Nat)) n<n:=by omega
 refine⟨bstK (scnI p Q prn 0 (M:Nat)) n,hb,?_,fun i hi=>?_⟩
 ·unfold hitQ;rw[nn,Int.zero_add,gg _ hb]
 ·rw[<-gg i hi,<-gg _ hb];exact b1 i hi
theorem FindOk.found(F:FindOk p s es Q n)(hM:1<=M/\M<=3)(n0:0<n)(hi:i<es.length)(su:sureB p s (es.getD i eD).prn=true):clmQ p s Q 0 (M:Nat) (es.getD i eD).prn=true:=by
 obtain⟨b,hb,hh,mx⟩:=F.hit (es.getD i eD).prn hM n0;have e:=F.em _ (F.at hi);have dl:=e.1.en.1;have hn:=F.hn;unfold clmQ claimB;rw[hh,decide_eq_true_eq];have q:=mx (es.getD i eD).dl.toNat (by omega);have g:=jtw (s:=Q) (c:=sampL p.d (es.getD i eD).prn p.o.toNat) (a:=(((es.getD i eD).dl.toNat:Nat):Int)) (w:=p.size) (T:=thrI p s (es.getD i eD).prn*thrI p s (es.getD i eD).prn) M (fun k hk=>by
  have kn:(k:Int)*p.size<=2*p.size:=Int.mul_le_mul_of_nonneg_right (by omega) (by omega);have k0:0<=(k:Int)*p.size:=Int.mul_nonneg (by omega) (by omega);exact F.big (K:=(k:Int)) hi (by omega) (by omega) (by omega) su)
 dsimp only;omega
theorem FindOk.quiet(F:FindOk p s es Q n){b:Nat}(hin:prn∈p.prns)(hb:b<n)(hM:M<=3)(al:∀w,w<M->∀e∈es,e.prn=prn->alB p e ((b:Int)+(w:Nat)*(n:Nat))=false):claimB (thrI p s prn) (pwK Q (sampL p.d prn p.o.toNat) (b:Nat) p.size M) M=false:=
 jmj (m:=6*n) (F.ac _ hin) F.hn (by omega) hb hM (fun a h1 h2 h3=>F.det prn a hin h1 h2 h3) al
theorem FindOk.there(F:FindOk p s es Q n)(hM:1<=M/\M<=3)(n0:0<n)(hin:prn∈p.prns)(hc:clmQ p s Q 0 (M:Nat) prn=true):∃e∈es,e.prn=prn:=by
 obtain⟨b,hb,hh,mx⟩:=F.hit prn hM n0;unfold clmQ at hc;rw[hh]at hc;by_cases q:∃e∈es,e.prn=prn
 ·exact q
 ·have:=F.quiet (M:=M) hin hb hM.2 (fun w hw e he hp=>absurd ⟨e,he,hp⟩ q);rw[this]at hc;cases hc
theorem FindOk.sure(F:FindOk p s es Q n)(hM:1<=M/\M<=3)(n0:0<n)(hi:i<es.length)(su:sureB p s (es.getD i eD).prn=true):cntK p s (es.getD i eD).prn Q (hitQ p Q 0 (M:Nat) (es.getD i eD).prn).2.1 (M:Nat) 1=1:=by
 have fo:=F.found hM n0 hi su;obtain⟨b,hb,hh,mx⟩:=F.hit (es.getD i eD).prn hM n0;have e:=F.em _ (F.at hi);have dl:=e.1.en.1;have hn:=F.hn;have ho:=F.ho;have po:=F.ok.nums.2.1;have sz:=jal F.ok.nums;unfold clmQ at fo;rw[hh]at fo|-;dsimp only at fo|-;have key:∃w,w<M/\alB p (es.getD i eD) ((b:Int)+(w:Nat)*(n:Nat))=true:=by
  by_cases q:∃w,w<M/\alB p (es.getD i eD) ((b:Int)+(w:Nat)*(n:Nat))=true
  ·exact q
  ·have:=F.quiet (M:=M) e.2.2 hb hM.2 (fun w hw y hy hp=>by
    obtain⟨k,hk,rfl⟩:=List.getElem_of_mem hy;have ek:k=i:=by
     have n1:=List.pairwise_iff_getElem.1 F.nd;rw[List.getD_eq_getElem?_getD,List.getElem?_eq_getElem hi,Option.getD_some]at hp;rcases Nat.lt_trichotomy k i with c|c|c
     ·exact absurd (by rw[List.getElem_map,List.getElem_map];exact hp) (n1 k i (by simpa using hk) (by simpa using hi) c)
     ·exact c
     ·exact absurd (by rw[List.getElem_map,List.getElem_map];exact hp.symm) (n1 i k (by simpa using hi) (by simpa using hk) c)
    subst ek;have g:es.getD k eD=es[k]:=by rw[List.getD_eq_getElem?_getD,List.getElem?_eq_getElem hk,Option.getD_some]
    rw[<-g];rcases h:alB p (es.getD k eD) ((b:Int)+(w:Nat)*(n:Nat))with _|_
    ·rfl
    ·exact absurd ⟨w,hw,h⟩ q)
   rw[this]at fo;cases fo
 obtain⟨w,hw,hal⟩:=key;unfold alB at hal;rw[List.any_eq_true]at hal;obtain⟨x,_,hx⟩:=hal;have hx:=of_decide_eq_true hx;generalize Int.tdiv ((b:Int)+(w:Nat)*(n:Nat)-(es.getD i eD).dl) p.size-3+(x:Nat)=K at hx;unfold alI at hx;rw[e.2.1]at hx;simp only[Int.mul_zero,Int.zero_ediv,Int.add_zero]at hx;have wn:((w:Nat):Int)*(n:Nat)=(w:Int)*p.size:=by rw[hn]
 rw[wn]at hx;have Mw:(K+((M:Int)-w))*p.size=K*p.size+(M:Int)*p.size-(w:Int)*p.size:=by rw[Int.add_mul,Int.sub_mul];omega
 have M1:p.size<=(M:Int)*p.size:=by
  have:=Int.mul_le_mul_of_nonneg_right (show(1:Int)<=M by omega) (show 0<=p.size by omega);omega
 have M3:(M:Int)*p.size<=3*p.size:=Int.mul_le_mul_of_nonneg_right (by omega) (by omega);have ex:(b:Int)+((M:Nat)+((0:Nat):Int))*p.size=b+(M:Int)*p.size:=by simp
 have hc:cfmK p s (es.getD i eD).prn Q ((b:Int)+((M:Nat)+((0:Nat):Int))*p.size) (2*p.o+1).toNat=true:=by
  rw[ex];generalize hX:(b:Int)+(M:Int)*p.size=X;generalize hA:(es.getD i eD).dl+(K+((M:Int)-w))*p.size=a;have aX:a-X<p.o/\X-a<p.o:=by omega
  have bg:=F.big (K:=K+((M:Int)-w)) (a:=a) hi hA.symm (by omega) (by omega) su;refine jtx (j:=(a-X+p.o).toNat) ⟨?_,?_⟩ _ (by omega)
  ·have:=F.len;omega
  ·have ea:X-p.o+((a-X+p.o).toNat:Int)=a:=by omega
   rw[ea];unfold clmW claimB;rw[decide_eq_true_eq,Int.mul_one];exact bg
 unfold cntK;rw[hc];rfl
end
theorem jiS:∀(L:List HitT) (k:Nat),k<L.length->cut (hitC L) (k*4) 4=hitCs (L.getD k (0,0,0,0))
 |x::L,0,_=>rfl
 |x::L,k+1,h=>by
  have e:=jiS L k (by simpa using h);have g:(x::L).getD (k+1) (0,0,0,0)=L.getD k (0,0,0,0):=by simp
  rw[g,<-e];unfold cut;rw[show(k+1)*4=4+k*4 by omega,<-List.drop_drop];rfl
theorem kbT{L:List HitT}(H:HI h v L){k:Nat}(hk:k<L.length):idxA 4 v (.int .i64 (k:Nat))=some (elA 4 v k)/\jb4 0 (elA 4 v k)=some (elF 4 v k 0)/\Ae.loadA h false 1 (elF 4 v k 0)=some (.int .i64 (L.getD k (0,0,0,0)).1)/\Ae.loadA h true 4 (elA 4 v k)=some (.agg (hitCs (L.getD k (0,0,0,0)))):=by
 have i:=SL.idx H (kk:=.i64) (k:=((k:Nat):Int)) ⟨by omega,by omega⟩;rw[Int.toNat_natCast]at i;have ld:=SL.loadA H hk;rw[jiS L k hk]at ld;refine⟨i,SL.fldE H k 0 hk,?_,ld⟩;rw[SL.loadE H hk (by decide),Nat.add_zero];have e:=jiS L k hk;have g:(cut (hitC L) (k*4) 4)[0]? =(hitC L)[k*4]? :=by
  unfold cut;rw[List.getElem?_take_of_lt (by decide),List.getElem?_drop,Nat.add_zero]
 rw[<-g,e];rfl
theorem jrN{s:Int}{Q:List (Int×Int)}{m:Int}{k:Nat}(hk:k<(hitsL p s Q f m l).length):∃prn∈l,clmQ p s Q f m prn=true/\(hitsL p s Q f m l).getD k (0,0,0,0)=hitQ p Q f m prn:=by
 have hm:(hitsL p s Q f m l).getD k (0,0,0,0)∈hitsL p s Q f m l:=by
  rw[List.getD_eq_getElem?_getD,List.getElem?_eq_getElem hk];exact List.getElem_mem _
 generalize (hitsL p s Q f m l).getD k (0,0,0,0)=x at*;unfold hitsL at hm;obtain⟨prn,hp,rfl⟩:=List.mem_map.1 hm;rw[List.mem_filter]at hp;exact⟨prn,hp.1,hp.2,rfl⟩
theorem jtb{s:Int}{Q:List (Int×Int)}{m:Int}(hin:prn∈l)(hc:clmQ p s Q f m prn=true):∃k,k<(hitsL p s Q f m l).length/\((hitsL p s Q f m l).getD k (0,0,0,0)).1=prn:=by
 have hm:hitQ p Q f m prn∈hitsL p s Q f m l:=by
  unfold hitsL;exact List.mem_map.2 ⟨prn,List.mem_filter.2 ⟨hin,hc⟩,rfl⟩
 obtain⟨k,hk,e⟩:=List.getElem_of_mem hm;refine⟨k,hk,?_⟩;rw[List.getD_eq_getElem?_getD,List.getElem?_eq_getElem hk,Option.getD_some,e];rfl
theorem RI.cap(H:RI h v l):KnownCap v\/∃i o n l0 vs,v=.slice i o n (.unk l0)/\h.get i=some (.cells vs true 1)/\o=l0*1/\o+n*1<=vs.length/\∀c,n<=c->RI h (.slice i o n (.known c)) l:=by
 obtain⟨a,b,⟨rfl,h1⟩|⟨i,o,c,ws,wr,u,rfl,hg,hle,hc,x⟩⟩:=H
 ·exact .inl (.inl rfl)
 ·cases c with
  |known c=>exact .inl (.inr ⟨_,_,_,_,rfl⟩)
  |unk l0=>
   obtain⟨rfl,rfl,ho⟩:=x;exact .inr ⟨i,o,_,l0,ws,rfl,hg,ho,hle,fun c hcc=>⟨a,b,.inr ⟨i,o,_,ws,true,1,rfl,hg,hle,hc,hcc⟩⟩⟩
theorem jur(hC:Has C TA){v vp:AV}{p:PlanP}{s:List (Int×Int)}{b sh f m:Int}{h:Heap}(hs:SI h v s)(Ks:KnownCap v)(R:RI h vp p.prns)(p64:p.ok64)(hf:In64 f)(hm:In64 m):
  ACalls C.main0 397 [v,plA p vp,gA b sh,.int .i64 f,.int .i64 m] h (jl4 p b sh s f m h):=by
 rcases R.cap with K|⟨i,o,n,l0,vs,rfl,hg,ho,hle,hk⟩
 ·exact jhz hC hs Ks R K p64 hf hm
 ·refine⟨(jhz (b:=b) (sh:=sh) hC hs Ks (hk n (Nat.le_refl _)) (.inr ⟨_,_,_,_,rfl⟩) p64 hf hm).1,fun extra kp env w Rl hb=>?_⟩;have q:=(jhI Rl hg (by decide) ho hle).1;have a:=(jhz (b:=b) (sh:=sh) hC hs Ks (hk _ q) (.inr ⟨_,_,_,_,rfl⟩) p64 hf hm).2 extra kp env w Rl (fun x hx=>by
   simp only[List.mem_cons,List.not_mem_nil,or_false]at hx;rcases hx with rfl|rfl|rfl|rfl|rfl
   ·exact hb _ (by simp)
   ·have:=hb (plA p (.slice i o n (.unk l0))) (by simp);exact this
   ·exact hb _ (by simp)
   ·exact hb _ (by simp)
   ·exact hb _ (by simp))
  exact a
theorem AcquireFinds_law(hC:Has C TA){vl ve vn:AV}{l em no:List Int}{shift many:Int}{h:Heap}(Rl:RI h vl l)(Re:RI h ve em)(Rn:RI h vn no)(i1:In64 shift)(i3:In64 many)(hxl:∀x∈l,In64 x)(hxe:∀x∈em,In64 x)(hxn:∀x∈no,In64 x)(K:KnownCap ve):
  ACalls C.main0 395 [vl,ve,vn,.int .i64 shift,.int .i64 many] h (fun r _=>r=.bool true):=by
 have hM:Has C.main0 TA:=hC.main0;have p64:=js7 l;have pe:=jrH l;have ok:=jdP pe;have sz:=jal ok.nums;have so:=(jdT l).2.1;have kA:=jgR hC (h:=h);have kS:=fun H (q:HSub h H)=>jkX hM (h:=H) (Rl.mono q) hxl;have nE:∃n:Nat,(smallOf l).size=(n:Int):=⟨_,(Int.toNat_of_nonneg (by omega)).symm⟩;obtain⟨n,hn⟩:=nE;have kz:=fun vp H (v1:vp.one=true)=>jb9 hM (h:=H) (vp:=vp) ok.nums v1;have T6:=fun H=>jc7 (h:=H) (x:=shift) (n:=6) hM i1 (by omega);have T3:=fun H=>jc7 (h:=H) (x:=many) (n:=3) hM i3 (by omega);have r6:=Int.emod_nonneg shift (show(6:Int)≠0 by decide)
 have r6':=Int.emod_lt_of_pos shift (show(0:Int)<6 by decide);have gz:gErr 8 (4+shift% 6)=0:=by unfold gErr;rw[if_pos (by omega)]
 have hs:0<=4+shift% 6/\4+shift% 6<=30:=by omega
 have mE:∃M:Nat,1+many% 3=(M:Nat)/\1<=M/\M<=3:=by
  have m1:=Int.emod_nonneg many (show(3:Int)≠0 by decide);have m2:=Int.emod_lt_of_pos many (show(0:Int)<3 by decide);exact⟨(1+many% 3).toNat,by omega,by omega,by omega⟩
 obtain⟨M,hMe,hM3⟩:=mE;have m3:=Int.emod_nonneg many (show(3:Int)≠0 by decide);have m3':=Int.emod_lt_of_pos many (show(0:Int)<3 by decide);have kC:=fun vp H (R:RI H vp (smallOf l).prns) (q:HSub h H)=>jkW hM (st:=true) R p64 pe (Re.mono q) K hxe (Rn.mono q) hxn gz (show 6*n<=1048576 by omega);have m6:((6*n:Nat):Int)=6*(n:Int):=by omega
 have eok:=jtu (l:=em) (st:=true) pe ok.nums p64 (smallOf l).prns.length (Nat.le_refl _);have es8:=jnB (smallOf l) em true (smallOf l).prns.length;have ol:=ok.len;have esum:=fun prn (hin:prn∈(smallOf l).prns)=>juq (l:=em) (st:=true) ok hin;have nd:=jrz (l:=em) ok.nodup pe ok.nums p64 (smallOf l).prns.length (Nat.le_refl _);rw[<-jrG (smallOf l) em true]at nd;generalize esT (smallOf l) em true (smallOf l).prns.length=es at*;have nin:=jrt (l:=no) (z:=(smallOf l).nz) ok.nums.2.2.2.2.2.2.1 (k:=6*n);have eo:∀e∈es,EmOk (smallOf l) e:=fun e he=>jkC (eok e he).1
 have det:=fun prn (a:Nat) (c1:lostK 8 (4+shift% 6) (scnL (smallOf l) es (noiL no (smallOf l).nz (6*n)) es.length (6*n)) (6*n)=0) (hin:prn∈(smallOf l).prns) (ha:(a:Int)+(smallOf l).size<=(6*n:Nat)) (ha4:(a:Int)<4*(smallOf l).size) (al:∀e∈es,e.prn=prn->alB (smallOf l) e a=false)=>jpD ok hs hin eo nin c1 ha ha4 al (by rw[jnz];exact Int.mul_le_mul_of_nonneg_left (by have:=esum prn hin;omega) (by have:=ok.nums.2.2.2.2;omega));have fin:=fun(i a:Nat) (Kx:Int) (c1:lostK 8 (4+shift% 6) (scnL (smallOf l) es (noiL no (smallOf l).nz (6*n)) es.length (6*n)) (6*n)=0) (hi:i<es.length) (hin:(es.getD i eD).prn∈(smallOf l).prns) (ha:(a:Int)+(smallOf l).size<=(6*n:Nat)) (hK:(a:Int)=(es.getD i eD).sta (smallOf l) Kx) (su:sureB (smallOf l) (4+shift% 6) (es.getD i eD).prn=true)=>jpG (K:=Kx) ok hs eo nd nin hi c1 ha hK su (esum _ hin)
 have ql:(qntL 8 (4+shift% 6) (scnL (smallOf l) es (noiL no (smallOf l).nz (6*n)) es.length (6*n))).length=6*n:=by unfold qntL;rw[List.length_map,jdf]
 have qin:∀x∈qntL 8 (4+shift% 6) (scnL (smallOf l) es (noiL no (smallOf l).nz (6*n)) es.length (6*n)),inS 127 x:=fun x hx=>by
  obtain⟨y,_,rfl⟩:=List.mem_map.1 hx;have tv:∀z:Int,-127<=lvlI 8 (4+shift% 6) z/\lvlI 8 (4+shift% 6) z<=127:=fun z=>by
   have t7:topI 8=127:=by decide
   unfold lvlI;rw[t7];split
   ·omega
   ·split<;>omega
  have t1:=tv y.1;have t2:=tv y.2;unfold inS;dsimp only;omega
 generalize qntL 8 (4+shift% 6) (scnL (smallOf l) es (noiL no (smallOf l).nz (6*n)) es.length (6*n))=Q at*;generalize lostK 8 (4+shift% 6) (scnL (smallOf l) es (noiL no (smallOf l).nz (6*n)) es.length (6*n)) (6*n)=lo at*;have kAll:=fun ws vp H (W:SI H ws Q) (Kw:KnownCap ws) (R:RI H vp (smallOf l).prns)=>jur hC (b:=8) (sh:=4+shift% 6) (f:=0) (m:=(M:Nat)) W Kw R p64 (by unfold In64;omega) (by unfold In64;omega);have kCf:=fun prn f pw m ws vp H (W:SI H ws Q) (R:RI H vp (smallOf l).prns) (hf:In64 f) (hm:In64 m)=>jhf hM (b:=8) (sh:=4+shift% 6) (prn:=prn) (f:=f) (pw:=pw) (m:=m) (n:=1) W R p64 hf hm (by unfold In64;omega)
 have kSu:=fun prn vp H (R:RI H vp (smallOf l).prns)=>jpl hM (b:=8) (s:=4+shift% 6) (prn:=prn) (h:=H) R p64;have e1:sampE Q=0:=by
  unfold sampE;rw[if_neg (by omega),if_pos qin]
 have mn:M*n<=3*n:=Nat.mul_le_mul_right n hM3.2;have aE:jfg (smallOf l) 8 (4+shift% 6) Q 0 (M:Nat)=0:=by
  have e2:placE 0 (M:Nat)=0:=by
   unfold placE;rw[if_neg (by omega)]
  have e3:fitB Q (smallOf l) 0 (M:Nat)=true:=by
   unfold fitB;rw[decide_eq_true_eq,hn,<-Int.natCast_mul];omega
  unfold jfg;rw[pe,gz,e1,e2,e3];rfl
 have F:lo=0->FindOk (smallOf l) (4+shift% 6) es Q n:=fun c1=>
  ⟨ok,hn,by omega,ql,fun prn hin=>⟨pe,ok,p64,hin,by omega,qin⟩,fun e he=>⟨eo e he,(eok e he).2.2.1 rfl,by
    obtain⟨i,hi,q⟩:=(eok e he).2.2.2;rw[q];exact jam hi⟩,nd,fun prn a hin ha ha4 al=>det prn a c1 hin ha ha4 al,fun i a Kx hi ha hK su=>fin i a Kx c1 hi (by
    have he:es.getD i eD∈es:=by rw[List.getD_eq_getElem?_getD,List.getElem?_eq_getElem hi];exact List.getElem_mem _
    obtain⟨k,hk,q⟩:=(eok _ he).2.2.2;rw[q];exact jam hk) ha hK su⟩
 clear det fin esum;have at0:∀i,i<es.length->es.getD i eD∈es:=fun i hi=>by rw[List.getD_eq_getElem?_getD,List.getElem?_eq_getElem hi];exact List.getElem_mem _
 have f1:lo=0->∀i,i<es.length->sureB (smallOf l) (4+shift% 6) (es.getD i eD).prn=true->∃k,k<(hitsL (smallOf l) (4+shift% 6) Q 0 (M:Nat) (smallOf l).prns).length/\((hitsL (smallOf l) (4+shift% 6) Q 0 (M:Nat) (smallOf l).prns).getD k (0,0,0,0)).1=(es.getD i eD).prn:=fun c1 i hi su=>
  jtb ((F c1).em _ (at0 i hi)).2.2 ((F c1).found hM3 (by omega) hi su)
 have f2:lo=0->∀k i,k<(hitsL (smallOf l) (4+shift% 6) Q 0 (M:Nat) (smallOf l).prns).length->i<es.length->((hitsL (smallOf l) (4+shift% 6) Q 0 (M:Nat) (smallOf l).prns).getD k (0,0,0,0)).1=(es.getD i eD).prn->sureB (smallOf l) (4+shift% 6) (es.getD i eD).prn=true->
   ∃f pw m,hitCs ((hitsL (smallOf l) (4+shift% 6) Q 0 (M:Nat) (smallOf l).prns).getD k (0,0,0,0))=[.int .i64 (es.getD i eD).prn,.int .i64 f,.int .i64 pw,.int .i64 m]/\In64 f/\In64 m/\jfA (smallOf l) 8 (4+shift% 6) Q (es.getD i eD).prn f m 1=.tuple [.int .i64 1,.int .i64 0]:=fun c1 k i hk hi hp su=>by
  obtain⟨prn,hin,hc,e⟩:=jrN hk;rw[e]at hp|-;have hp:prn=(es.getD i eD).prn:=hp;subst hp;have cn:=(F c1).sure hM3 (by omega) hi su;obtain⟨b,hb,hh,_⟩:=(F c1).hit (es.getD i eD).prn hM3 (by omega);rw[hh]at cn|-;refine⟨(b:Nat),_,(M:Nat),rfl,by unfold In64;omega,by unfold In64;omega,?_⟩;have c:codeE (smallOf l) (es.getD i eD).prn=0:=if_pos hin;have e2:placE (b:Nat) (M:Nat)=0:=by
   unfold placE;rw[if_neg (by omega)]
  have ce:jcN (smallOf l) 8 (4+shift% 6) Q (es.getD i eD).prn (b:Nat) (M:Nat) 1=0:=by
   unfold jcN;rw[pe,gz,c,e1,e2];rfl
  unfold jfA;rw[ce,if_pos rfl];have cn:cntK (smallOf l) (4+shift% 6) (es.getD i eD).prn Q (b:Nat) (M:Nat) (1:Int).toNat=1:=cn;rw[cn];rfl
 have f3:lo=0->∀k,k<(hitsL (smallOf l) (4+shift% 6) Q 0 (M:Nat) (smallOf l).prns).length->∃i,i<es.length/\(es.getD i eD).prn=((hitsL (smallOf l) (4+shift% 6) Q 0 (M:Nat) (smallOf l).prns).getD k (0,0,0,0)).1:=fun c1 k hk=>by
  obtain⟨prn,hin,hc,e⟩:=jrN hk;obtain⟨y,hy,q⟩:=(F c1).there hM3 (by omega) hin hc;obtain⟨i,hi,rfl⟩:=List.getElem_of_mem hy;refine⟨i,hi,?_⟩;rw[e,List.getD_eq_getElem?_getD,List.getElem?_eq_getElem hi];exact q
 have hl8:=joc (smallOf l) (4+shift% 6) Q 0 (M:Nat) (smallOf l).prns;unfold jl4 at kAll;rw[aE,if_pos rfl]at kAll;clear F aE e1;have hin:∀i,i<es.length->(es.getD i eD).prn∈(smallOf l).prns:=fun i hi=>by
  obtain⟨k,hk,q⟩:=(eok _ (at0 i hi)).2.2.2;rw[q];exact jam hk
 have kSu:=fun(i:Nat) (hi:i<es.length) vp H (R:RI H vp (smallOf l).prns)=>by
  have k:=kSu (es.getD i eD).prn vp H R;have d:detErr (smallOf l) 8 (4+shift% 6) (es.getD i eD).prn=0:=by
   unfold detErr askErr;rw[if_pos pe,gz,if_pos rfl,if_pos (hin i hi)]
  unfold sureE at k;rw[if_pos d]at k;exact k
 generalize hitsL (smallOf l) (4+shift% 6) Q 0 (M:Nat) (smallOf l).prns=HL at*;rw[hn]at sz;generalize hsh:4+shift% 6=s at*;generalize smallOf l=p at*;rw[hn]at kz;rw[m6]at kC;unfold plA gA hitA at*;refine jd7 (hM.body (by decide) (by rfl:tab 395=some B395)) (Nat.le_of_ble_eq_true rfl) ?_;show wp C.main0 _ none B395.code _ _;simp only[B395,zB];refine zs ?_;refine kad kA ?_;rintro r h1 ⟨rfl,s1⟩;refine zs ?_;refine kad (kS _ s1) ?_;rintro r h2 ⟨s2,vp,rfl,R2⟩;have v1:=R2.one;refine zs ?_;refine kaa (T6 _) ?_;have u2:=s1.trans s2;refine zs1 @hsh ?_;refine kaa (kz _ _ v1) ?_
 refine zs1 @hsh ?_;refine kal (fun H hH=>?_);have g12:H.get h2.size=some (.cells [.int .i64 p.d,.int .i64 p.o,.int .i64 p.pb,.int .i64 p.w,.int .i64 p.mn,.int .i64 p.mx,.int .i64 p.nz,vp] true 0):=by rw[hH];exact ze
 have g13:H.get (h2.size+1)=some (.cells [.int .i64 8,.int .i64 s] true 0):=by rw[hH];exact ze
 have sH2:HSub h2 H:=by rw[hH];exact zr
 have RH:=R2.mono sH2;clear hH;refine kad (kC _ _ RH (u2.trans sH2)) ?_;rintro r h4 ⟨s4,ws,we,rfl,W,E,Kw⟩;have g12:=(s4.get _ (kab g12)).trans g12;have g13:=(s4.get _ (kab g13)).trans g13;have R4:=RH.mono s4;refine zs ?_;refine kaf (fun c1=>?_) (fun c1=>?_)
 rotate_left
 ·exact ze
 ·have lo0:lo=0:=by simpa using c1
  have f1:=f1 lo0;have f2:=f2 lo0;have f3:=f3 lo0;refine zs ?_;refine kaa (T3 _) (zs3 hMe g12 g13 ?_);refine kad (kAll _ _ _ W Kw R4) ?_;rintro r h5 ⟨w5,rfl,s5,HL5⟩;have g12:=(s5.get _ (kab g12)).trans g12;have g13:=(s5.get _ (kab g13)).trans g13;have W5:=W.mono s5;have R5:=R4.mono s5;have E5:=E.mono s5;refine zs1 @jai.eq_1 ?_;refine jae (fun jj t H=>HSub h5 H/\t 11=.bool true/\t 12=.ptr h2.size 0/\t 13=.ptr (h2.size+1) 0/\t 15=ws/\t 16=we/\t 18=w5/\∃i:Nat,t 20=.int .i64 (i:Nat)/\i<=es.length/\jj=es.length-i) (j0:=es.length)
   ⟨kag _,rfl,rfl,rfl,rfl,rfl,rfl,0,rfl,by omega,rfl⟩ ?_
  rintro jj t H ⟨sH,e11,e12,e13,e15,e16,e18,i,e20,hi,hjj⟩;have q12:=(sH.get _ (kab g12)).trans g12;have q13:=(sH.get _ (kab g13)).trans g13;have WH:=W5.mono sH;have RH:=R5.mono sH;have EH:=E5.mono sH;have HH:=SL.mono HL5 sH;have Hl:=SL.len HH;have El:=EH.len;refine zs3 e16 e20 El ?_;refine kaf (fun c2=>?_) (fun c2=>?_)
  ·have hi':i<es.length:=by omega
   have eat:=EH.at hi';obtain⟨vb,i8,l8,Bb,f8,l0,l1⟩:=eat;have l0:=l0 _ (kag _);have f80:=f8 0;have f1:=f1 i hi';have kS1:=kSu i hi' vp H RH;have sE:∃sb:Bool,sb=sureB p s (es.getD i eD).prn:=⟨_,rfl⟩;obtain⟨sb,hsb⟩:=sE;rw[<-hsb]at kS1 f1;have f2:=fun k hk hp=>f2 k i hk hi' hp;rw[<-hsb]at f2;clear hsb;refine zs ?_;refine jae (fun jj u H2=>H2=H/\u 11=.bool true/\u 12=.ptr h2.size 0/\u 13=.ptr (h2.size+1) 0/\u 15=ws/\u 16=we/\u 18=w5/\u 20=.int .i64 (i:Nat)/\∃(k:Nat) (Fd:Int),u 21=.int .i64 Fd/\u 22=.int .i64 (k:Nat)/\k<=HL.length/\jj=HL.length-k/\((Fd= -1/\∀x,x<k->(HL.getD x (0,0,0,0)).1≠(es.getD i eD).prn)\/∃x:Nat,x<k/\Fd=(x:Nat)/\(HL.getD x (0,0,0,0)).1=(es.getD i eD).prn)) (j0:=HL.length)
    ⟨rfl,e11,e12,e13,e15,e16,e18,e20,0,-1,rfl,rfl,by omega,rfl,.inl ⟨rfl,fun x hx=>absurd hx (Nat.not_lt_zero x)⟩⟩ ?_
   rintro jj2 u H2 ⟨rfl,f11,f12,f13,f15,f16,f18,f20,k,Fd,f21,f22,hk,hjj2,hF⟩;refine zs3 f18 f22 Hl ?_;refine kaf (fun c3=>?_) (fun c3=>?_)
   ·have hk':k<HL.length:=by omega
    have ha:=kbT HH hk';obtain⟨j4,j5,j6,_⟩:=ha;by_cases c9:(HL.getD k (0,0,0,0)).1=(es.getD i eD).prn
    ·refine zs7 f18 f22 f16 f20 j4 j5 (zI j6 (zI i8 (zI f80 (zI l0 c9)))) ?_;exact⟨_,⟨f11,f12,f13,f15,k+1,by simp,by omega,rfl,.inr ⟨k,by omega,rfl,c9⟩⟩,by omega⟩
    ·have hm2:HL.length-(k+1)<jj2:=by clear hF;omega
     have hF2:(Fd= -1/\∀x,x<k+1->(HL.getD x (0,0,0,0)).1≠(es.getD i eD).prn)\/∃x:Nat,x<k+1/\Fd=(x:Nat)/\(HL.getD x (0,0,0,0)).1=(es.getD i eD).prn:=by
      rcases hF with⟨a,b⟩|⟨x,a,b⟩
      ·refine .inl ⟨a,fun x hx=>?_⟩;rcases Nat.lt_or_ge x k with y|y
       ·exact b x y
       ·obtain rfl:x=k:=by omega
        exact c9
      ·exact .inr ⟨x,Nat.lt_succ_of_lt a,b⟩
     refine zs7 f18 f22 f16 f20 j4 j5 (zI j6 (zI i8 (zI f80 (zI l0 c9)))) ?_;exact⟨_,⟨f11,f12,f13,f15,k+1,Fd,f21,by simp,hk',rfl,hF2⟩,hm2⟩
   ·obtain rfl:k=HL.length:=by omega
    refine zs7 f12 f13 f16 f20 i8 f80 (zI l0 (zI q12 q13)) ?_;refine kaa kS1 ?_;cases sb with
    |false=>
     refine zs1 f20 ?_;exact⟨_,⟨sH,f11,f12,f13,f15,f16,f18,i+1,by simp,by omega,rfl⟩,by omega⟩
    | true =>
     have f1:=f1 rfl;rcases hF with⟨rfl,hno⟩|⟨x,hx,rfl,hxp⟩
     ·exfalso;obtain⟨k,hk,q⟩:=f1;exact hno k hk q
     ·have f2:=f2 x hx hxp rfl;obtain⟨f,pw,m,hcs,hf,hm,hco⟩:=f2;have ha:=kbT HH hx;obtain⟨j4,j5,j6,j7⟩:=ha;rw[hcs]at j7;have kc:=kCf (es.getD i eD).prn f pw m ws vp H2 WH RH hf hm;rw[hco]at kc;have nx:¬((x:Int)<0):=by omega
      refine zs7 f21 nx f12 f13 f15 f18 (zI j4 (zI j7 (zI q12 q13))) ?_;refine kad kc ?_;rintro r h6 ⟨rfl,s6⟩;refine zs1 f20 ?_;exact⟨_,⟨sH.trans s6,f11,f12,f13,f15,f16,f18,i+1,by simp,by omega,rfl⟩,by omega⟩
  ·refine zs ?_;refine jae (fun jj u H2=>H2=H/\u 11=.bool true/\u 16=we/\u 18=w5/\∃k:Nat,u 27=.int .i64 (k:Nat)/\k<=HL.length/\jj=HL.length-k) (j0:=HL.length)
    ⟨rfl,e11,e16,e18,0,rfl,by omega,rfl⟩ ?_
   rintro jj2 u H2 ⟨rfl,f11,f16,f18,k,f27,hk,hjj2⟩;refine zs3 f18 f27 Hl ?_;refine kaf (fun c3=>?_) (fun c3=>?_)
   ·have hk':k<HL.length:=by omega
    have ha:=kbT HH hk';obtain⟨j4,j5,j6,_⟩:=ha;have f3:=f3 k hk';refine zs ?_;refine jae (fun jj u H3=>H3=H2/\u 11=.bool true/\u 16=we/\u 18=w5/\u 27=.int .i64 (k:Nat)/\∃(x:Nat) (th:Bool),u 28=.bool th/\u 29=.int .i64 (x:Nat)/\x<=es.length/\jj=es.length-x/\(th=false->∀y,y<x->(es.getD y eD).prn≠(HL.getD k (0,0,0,0)).1)) (j0:=es.length)
     ⟨rfl,f11,f16,f18,f27,0,false,rfl,rfl,by omega,rfl,fun _ y hy=>absurd hy (Nat.not_lt_zero y)⟩ ?_
    rintro jj3 w H3 ⟨rfl,w11,w16,w18,w27,x,th,w28,w29,hx,hjj3,hth⟩;refine zs3 w16 w29 El ?_;refine kaf (fun c4=>?_) (fun c4=>?_)
    ·have hx':x<es.length:=by omega
     have eat:=EH.at hx';obtain⟨vb,i8,l8,Bb,f8,l0,l1⟩:=eat;have l0:=l0 _ (kag _);have f80:=f8 0;cases th with
     |true=>
      refine zs3 w28 w29 @gV_u ?_;exact⟨_,⟨w11,w16,w18,w27,x+1,true,rfl,by simp,by omega,rfl,fun q=>by cases q⟩,by omega⟩
     |false=>
      have hq:=hth rfl;by_cases c9:(es.getD x eD).prn=(HL.getD k (0,0,0,0)).1
      ·refine zs7 w28 w29 w16 w18 w27 i8 (zI f80 (zI l0 (zI j4 (zI j5 (zI j6 c9))))) ?_;exact⟨_,⟨w11,x+1,true,rfl,by simp,by omega,rfl,fun q=>by cases q⟩,by omega⟩
      ·refine zs7 w28 w29 w16 w18 w27 i8 (zI f80 (zI l0 (zI j4 (zI j5 (zI j6 c9))))) ?_;exact⟨_,⟨w11,x+1,false,rfl,by simp,by omega,rfl,fun _ y hy=>by
        rcases Nat.lt_or_ge y x with z|z
        ·exact hq y z
        ·obtain rfl:y=x:=by omega
         exact c9⟩,by omega⟩
    ·obtain rfl:x=es.length:=by omega
     cases th with
     |true=>
      refine zs2 w28 w27 ?_;exact⟨_,⟨w11,w16,w18,k+1,by simp,by omega,rfl⟩,by omega⟩
     |false=>
      exfalso;obtain⟨i,hi,q⟩:=f3;exact hth rfl i hi q
   ·exact ze1 f11
end Go.Ae
