/- Texts of the proof, part 16: a second reading of the lowered code, proved sound, and what the functions compute. -/
import Derived.Test.YtkbkpjinekcnhaaGreatF15
set_option linter.unusedSimpArgs false
set_option linter.unusedVariables false
set_option maxRecDepth 20000
set_option maxHeartbeats 4000000
namespace Go.Ae
variable {C : Ctx} {h : Heap} {p : PlanP} {b a : Int}
def emA(e:EmitP)(vb:AV):AV:=.agg [.int .i64 e.prn,.int .i64 e.dl,.int .i64 e.rt,.int .u32 e.st,.int .u32 e.ph,.int .i64 e.amp,.int .i64 e.ba,vb]
theorem jcT(hC:Has C TA)(ha:In64 a)(hb:0<b/\b<=1000000):ACalls C 258 [.int .i64 a,.int .i64 b] h (fun r h'=>r=.int .i64 (a/b)/\h'=h):=by
 have e:=jpe (k:=a) hb.1;unfold In64 at ha;have q1:a.tdiv b=if a.tmod b<0 then a/b+1 else a/b:=by split at e<;>rename_i c<;>simp only[c,if_true,if_false]<;>omega
 have r1: -9223372036854775808<=a/b/\a/b<=9223372036854775807:=by
  constructor
  ·rw[Int.le_ediv_iff_mul_le hb.1];have:(1:Int)<=b:=hb.1;omega
  ·rw[<-Int.lt_add_one_iff,Int.ediv_lt_iff_lt_mul hb.1];have:(1:Int)<=b:=hb.1;omega
 by_cases c:a.tmod b<0
 ·rw[if_pos c]at q1;have r2:a/b+1<=9223372036854775807:=by
   have c0:¬0<=a:=fun q=>by have:=Int.tmod_nonneg b q;omega
   have:=Int.ediv_neg_of_neg_of_pos (show a<0 by omega) hb.1;omega
  refine zf 258 B258 hC ?_;simp only[B258,zB];refine zs2 c q1 ?_;omega
 ·rw[if_neg c]at q1;refine zf 258 B258 hC ?_;simp only[B258,zB];exact ze2 c q1
theorem jf6(hC:Has C TA){p:PlanP}{e:EmitP}{vp vb:AV}{k:Int}{h:Heap}(ok:EmOk p e)(v1:vp.one=true)(b1:vb.one=true)(hk: -20000000<=k/\k<=20000000):
  ACalls C 241 [plA p vp,emA e vb,.int .i64 k] h (fun r h'=>r=.int .i64 (e.sta p k)/\h'=h):=by
 refine kae (P:=fun r h'=>r=.int .i64 (e.sta p k)/\HSub h h') ?_ (fun r h' hp=>⟨by rw[hp.1];trivial,hp.2,hp.1,rfl⟩);have sz:=fun h=>jb9 hC (vp:=vp) (h:=h) ok.pn v1;have sb:=ok.stb hk;have d:=ok.en.1;have s:=jal ok.pn;have fl:=fun h=>jcT hC (a:=k*e.rt) (b:=1024) (h:=h) (by unfold In64;omega) (by omega);unfold EmitP.sta stI at sb|-;unfold plA at sz|-;unfold emA;generalize p.size=z at*;obtain⟨pd,o,pb,w,mn,mx,nz,prns⟩:=p;obtain⟨prn,dl,rt,st,ph,amp,ba,bits⟩:=e;dsimp only at*;refine zf 241 B241 hC ?_;simp only[B241,zB];refine zs ?_
 refine kaa (sz _) (zs ?_);refine kaa (fl _) (zs ?_);exact(kac _ _).push _
theorem st_gt{e:EmitP}(ok:EmOk p e){n k:Int}:e.sta p k<=n↔k<=e.pl p n:=st_le ok.den
theorem jkD(hC:Has C TA){p:PlanP}{e:EmitP}{vp vb:AV}{n:Int}{h:Heap}(ok:EmOk p e)(v1:vp.one=true)(b1:vb.one=true)(hn: -10100000<=n/\n<=10100000):
  ACalls C 246 [plA p vp,emA e vb,.int .i64 n] h (fun r h'=>r=.int .i64 (e.pl p n)/\h'=h):=by
 refine kae (P:=fun r h'=>r=.int .i64 (e.pl p n)/\HSub h h') ?_ (fun r h' hp=>⟨by rw[hp.1];trivial,hp.2,hp.1,rfl⟩);have sz:=fun h=>jb9 hC (vp:=vp) (h:=h) ok.pn v1;have ks:=fun(k:Int) (hk: -20000000<=k/\k<=20000000) h=>jf6 hC (k:=k) (h:=h) ok v1 b1 hk;have gt:=fun(k:Int)=>st_gt ok (n:=n) (k:=k);have pb:=ok.plb hn;have d:=ok.en.1;have s:=jal ok.pn;have fl:=fun h=>jcT hC (a:=n-e.dl) (b:=p.size) (h:=h) (by unfold In64;omega) (by omega);have td: -11000000<=(n-e.dl)/p.size/\(n-e.dl)/p.size<=11000000:=by
  constructor
  ·rw[Int.le_ediv_iff_mul_le (by omega)];omega
  ·rw[<-Int.lt_add_one_iff,Int.ediv_lt_iff_lt_mul (by omega)];omega
 unfold plA at sz ks|-;unfold emA at ks|-;generalize e.pl p n=K at*;generalize hSt:e.sta p=St at*;generalize p.size=z at*;obtain⟨pd,o,pb,w,mn,mx,nz,prns⟩:=p;obtain⟨prn,dl,rt,st,ph,amp,ba,bits⟩:=e;dsimp only at*;refine zf 246 B246 hC ?_;simp only[B246,zB];refine zs ?_;refine kaa (sz _) (zs ?_);refine kaa (fl _) (zs ?_);refine jae (fun j t h'=>h'=(h.push (.cells [.int .i64 pd,.int .i64 o,.int .i64 pb,.int .i64 w,.int .i64 mn,.int .i64 mx,.int .i64 nz,vp] true 0)).push (.cells [.int .i64 prn,.int .i64 dl,.int .i64 rt,.int .u32 st,.int .u32 ph,.int .i64 amp,.int .i64 ba,vb] true 0)/\∃k:Int,t 2=.int .i64 n/\t 3=.ptr h.size 0/\t 4=.ptr (h.size+1) 0/\t 7=.int .i64 k/\ -11000000<=k/\k<=11000002/\j=(k-K).toNat) (j0:=((n-dl)/z-K).toNat)
  ⟨rfl,_,rfl,rfl,rfl,rfl,by omega,by omega,rfl⟩ ?_
 rintro j t h1 ⟨hh,k,e2,e3,e4,ek,k1,k2,hj⟩;have gp:h1.get h.size=some (.cells [.int .i64 pd,.int .i64 o,.int .i64 pb,.int .i64 w,.int .i64 mn,.int .i64 mx,.int .i64 nz,vp] true 0):=by rw[hh];exact ze
 have ge:h1.get (h.size+1)=some (.cells [.int .i64 prn,.int .i64 dl,.int .i64 rt,.int .u32 st,.int .u32 ph,.int .i64 amp,.int .i64 ba,vb] true 0):=by rw[hh];exact ze
 have s1:HSub h h1:=by rw[hh];exact(kac _ _).push _
 have g:=gt k;refine zs6 e2 e3 e4 ek gp ge ?_;refine kaa (ks k (by omega) _) (zs3 e2 e3 e4 ?_);refine kaf (fun c=>?_) (fun c=>?_)
 ·have kK:K<k:=by
   rcases Int.lt_or_le K k with q|q
   ·exact q
   ·have:=g.2 q;omega
  refine zs5 e2 e3 e4 ek hh ?_;exact⟨_,⟨by omega,by omega,rfl⟩,by omega⟩
 ·have kK:k<=K:=g.1 (by omega);refine zs ?_;refine jae (fun j t h'=>h'=h1/\∃k:Int,t 2=.int .i64 n/\t 3=.ptr h.size 0/\t 4=.ptr (h.size+1) 0/\t 7=.int .i64 k/\ -11000000<=k/\k<=K/\j=(K-k).toNat) (j0:=(K-k).toNat)
   ⟨rfl,k,e2,e3,e4,ek,k1,kK,rfl⟩ ?_
  rintro j t h2 ⟨rfl,k,e2,e3,e4,ek,k3,k4,hj⟩;have g:=gt (k+1);refine zs6 e2 e3 e4 ek gp ge ?_;refine kaa (ks (k+1) (by omega) _) (zs3 e2 e3 e4 ?_);refine kaf (fun c=>?_) (fun c=>?_)
  ·have kK:k+1<=K:=g.1 c;refine zs4 e2 e3 e4 ek ?_;exact⟨_,⟨by omega,by omega,rfl⟩,by omega⟩
  ·have kK:k=K:=by
    rcases Int.lt_or_le k K with q|q
    ·have:=g.2 (by omega);omega
    ·omega
   refine zs2 ek kK ?_;exact s1
end Go.Ae
