/- Texts of the proof, part 14: a second reading of the lowered code, proved sound, and what the functions compute. -/
import Derived.OpenShut
import Derived.ChangeSlices
import Derived.ProofKit
import Derived.WalkKit
import Derived.Test.YtkbkpjinekcnhaaGreatF13
set_option linter.unusedSimpArgs false
set_option linter.unusedVariables false
set_option maxRecDepth 20000
set_option maxHeartbeats 4000000
namespace Go.Ae
variable {C : Ctx} {h h' h0 : Heap} {v : AV} {w : World} {env : Env} {kp : Keep} {m sz c u g : Nat} {d a : Int} {cs vs args : List AV} {nid : Option Nat} {ts : List Int} {P : Program}
open Go.ChangeShapes Go.WideShapes Go.ChangeAt Go.RowKit
theorem trodAll_stays{H:Type}{enc:TypeId×Value->H}{P:Program}(hl:laidOutB P=true){W W':World}(hb:Below W.heap.size W W'):∀{ts:List TypeId} {vs:List Value} {ds:List (DataW H)} {ps:List MemPlace},
  (ts.all fun t=>P.readableRec t&&decide (t<P.types.size))=true->DataW.TrodAll enc P W 0 (fun _=>true) true ts vs ds ps->(∀x∈ps,x.block<W.heap.size)->
  DataW.TrodAll enc P W' 0 (fun b=>decide (b<W.heap.size)) true ts vs ds ps
 |[],vs,ds,ps,_,h,_=>by
  obtain⟨rfl,rfl,rfl⟩:=trodAll_nil h;exact trodAll_mk0
 |t::ts,vs,ds,ps,ht,h,hlt=>by
  obtain⟨v,vs',d,ds',p,q,rfl,rfl,rfl,h1,h2⟩:=trodAll_cons h;simp only[List.all_cons,Bool.and_eq_true,decide_eq_true_eq]at ht;exact⟨p,q,Below.trod hl ht.1.1 ht.1.2 h1 hb (fun x hx=>hlt x (List.mem_append_left _ hx)),trodAll_stays hl hb (by simpa using ht.2) h2 (fun x hx=>hlt x (List.mem_append_right _ hx)),rfl⟩
def argHeap(bs:List (Option (List AV))):Heap:=⟨bs.length,fun i=>match bs[i]? with|some (some vs)=>some (.cells vs false 0)|_=>none,fun i hi=>by rw[List.getElem?_eq_none hi]⟩
theorem jh8{bs:List (Option (List AV))}{i:Nat}(h:bs[i]? =some (some vs)):(argHeap bs).get i=some (.cells vs false 0):=by simp only[argHeap,h]
theorem jcF{bs:List (Option (List AV))}{i:Nat}{b:ABlk}(h:(argHeap bs).get i=some b):∃vs,bs[i]? =some (some vs)/\b=.cells vs false 0:=by
 simp only[argHeap]at h;split at h
 ·rename_i vs hv;cases h;exact⟨vs,hv,rfl⟩
 ·cases h
theorem rel_args {C:Ctx} {env:Env} {w:World} (bs:List (Option (List AV))) (hlt:∀i vs,bs[i]? =some (some vs)->(env i).blk<w.heap.size/\(∀v∈vs,v.bel (argHeap bs).ok)/\
  ∀k v,vs[k]? =some v->w.cell? ⟨(env i).blk,(env i).sh+k,none⟩=some (v.val C.lk env)):Rel C ⟨fun r=>r<w.heap.size,fun _=>False⟩ env (argHeap bs) w:=by
 refine⟨?_,?_,?_,?_,?_,fun r hr=>hr,?_,fun r hr=>hr.elim⟩
 ·intro i b hb;obtain⟨vs,hv,rfl⟩:=jcF hb;exact(hlt i vs hv).1
 ·intro i b hb;obtain⟨vs,hv,rfl⟩:=jcF hb;exact(hlt i vs hv).2.2
 ·intro i j b c hb hc hij hw;obtain⟨vs,hv,rfl⟩:=jcF hb;cases hw
 ·intro i b hb;obtain⟨vs,hv,rfl⟩:=jcF hb;exact(hlt i vs hv).2.1
 ·intro i b hb hw;obtain⟨vs,hv,rfl⟩:=jcF hb;cases hw
 ·intro i b hb hd hf;exact hf
structure InList where
 l:List Int
 nil:Bool
 blk:Nat
 off:Nat
 cap:Nat
def InList.val(x:InList):Value:=if x.nil then .slice none 0 0 else .slice (some ⟨x.blk,x.off,none⟩) x.l.length x.cap
def InList.av(x:InList)(i:Nat):AV:=if x.nil then .nilslice else .slice i 0 x.l.length (.known x.cap)
def InList.row(x:InList):Option (List AV):=if x.nil then none else some (ints x.l)
def InList.eb(x:InList):EB:=⟨x.blk,x.off,0⟩
structure InList.ok (x:InList) (w:World):Prop where
 isNil:x.nil=true->x.l=[]
 cap:x.nil=false->x.l.length<=x.cap
 lt:x.l.length<9223372036854775808
 blk:x.nil=false->x.blk<w.heap.size
 cell:∀k n,x.l[k]? =some n->w.cell? ⟨x.blk,x.off+k,none⟩=some (.int .i64 n)
 num:∀n∈x.l,-9223372036854775808<=n/\n<=9223372036854775807
theorem wf_i64{n:Int}(h:(Lit.int .i64 n).wf=true): -9223372036854775808<=n/\n<=9223372036854775807:=by
 have:(decide (IntKind.i64.min<=n)&&decide (n<=IntKind.i64.max))=true:=h;simp only[Bool.and_eq_true,decide_eq_true_eq]at this;exact this
theorem open_list{H:Type}{enc:TypeId×Value->H}{P:Program}{w:World}{b0:Nat}{t e:TypeId}{v:Value}{d:DataW H}{ps:List MemPlace}(ht:P.underlying t=some (.slice e))(he:P.underlying e=some (.int .i64))(hc:P.cellsOf e=1)
  (hval:Value.okWide P w .any b0 t v) (hd:DataW.Trod enc P w 0 (fun _=>true) true t v d ps):∃x:InList,v=x.val/\x.ok w:=by
 have hval':=hval;obtain⟨a0,len,cap,rfl⟩:=okWide_slice ht hval;obtain⟨fuel,hf⟩:=hd;rcases open_ints ht he hc hf with⟨hcs,_⟩|⟨a,len',cap',zs,hcs,_,hl,hm,hz,_,hcell,hwz⟩
 ·simp only[Value.cells,Array.toList]at hcs;cases hcs;exact⟨⟨[],true,0,0,0⟩,rfl,⟨fun _=>rfl,fun h=>(by cases h),by simp,fun h=>(by cases h),by simp,by simp⟩⟩
 ·simp only[Value.cells,Array.toList]at hcs;cases hcs;have hlen:zs.length=cap:=by simpa using hz
  have hok:Cell.ok P w .any b0 t (.slice (some a) len cap):=by
   simp only[Value.okWide,ht,Cell.okWide]at hval';exact hval'
  simp only[Cell.ok,ht]at hok;obtain⟨_,_,_,hspot,row,cells,hsh,_⟩:=hok;have hblk:a.block<w.heap.size:=by
   unfold World.shape? at hsh;rcases Nat.lt_or_ge a.block w.heap.size with h|h
   ·exact h
   ·rw[Array.getElem?_eq_none h]at hsh;cases hsh
  have hmax:cap<=9223372036854775807:=hm;obtain⟨ab,ao,asp⟩:=a;simp only at hspot hblk;subst hspot;have hlt:(zs.take len).length=len:=by simp;omega
  refine⟨⟨zs.take len,false,ab,ao,cap⟩,?_,⟨fun h=>(by cases h),fun _=>(by rw[hlt];exact hl),(by rw[hlt];omega),fun _=>hblk,?_,?_⟩⟩
  ·simp only[InList.val,Bool.false_eq_true,if_false,hlt]
  ·intro k n hk;rw[List.getElem?_take]at hk;split at hk
   ·rename_i hkl;have h2:k<zs.length:=by omega
    have:=hcell k h2;rw[List.getD_eq_getElem?_getD,hk]at this;by_cases hk0:k=0
    ·subst hk0;simpa[Addr.add]using this
    ·simpa[Addr.add,hk0]using this
   ·cases hk
  ·intro n hn;exact wf_i64 (hwz n (List.mem_of_mem_take hn))
theorem InList.ri{x:InList}{bs:List (Option (List AV))}{i:Nat}(hx:x.ok w)(hi:bs[i]? =some x.row):RI (argHeap bs) (x.av i) x.l:=by
 unfold InList.av;cases hn:x.nil with
 |true=>
  rw[hx.isNil hn,if_pos rfl];exact kav
 |false=>
  rw[if_neg (by simp)];refine kah (jh8 (hi.trans ?_)) ⟨rfl,hx.lt⟩ (hx.cap hn);simp[InList.row,hn]
theorem InList.av_val{x:InList}{i:Nat}{lk:Nat->FuncId}(he:env i=x.eb):(x.av i).val lk env=x.val:=by
 unfold InList.av InList.val;cases hn:x.nil with
 |true=>rfl
 |false=>simp[AV.val,he,InList.eb,Cap.at]
theorem InList.av_bel{x:InList}{w:World}{bs:List (Option (List AV))}{i:Nat}(hi:bs[i]? =some x.row):(x.av i).bel (argHeap bs).ok:=by
 unfold InList.av;cases hn:x.nil with
 |true=>trivial
 |false=>
  show(argHeap bs).ok i;have:bs[i]? =some (some (ints x.l)):=hi.trans (by simp[InList.row,hn]);simp[Heap.ok,jh8 this]
theorem InList.rowOk{C:Ctx}{x:InList}{w:World}{bs:List (Option (List AV))}{env:Env}{i:Nat}{vs:List AV}(hx:x.ok w)(he:env i=x.eb)(hv:x.row=some vs):(env i).blk<w.heap.size/\(∀v∈vs,v.bel (argHeap bs).ok)/\
  ∀k v,vs[k]? =some v->w.cell? ⟨(env i).blk,(env i).sh+k,none⟩=some (v.val C.lk env):=by
 unfold InList.row at hv;split at hv
 ·cases hv
 ·rename_i hn;cases hv;rw[he];refine⟨hx.blk (by simpa using hn),?_,?_⟩
  ·intro v hv;obtain⟨n,_,rfl⟩:=List.mem_map.1 hv;trivial
  ·intro k v hk;simp only[ints,List.getElem?_map,Option.map_eq_some_iff]at hk;obtain⟨n,hn,rfl⟩:=hk;exact hx.cell k n hn
end Go.Ae
namespace Go.Ae
variable {C : Ctx} {h h' h0 : Heap} {v : AV} {w : World} {env : Env} {kp : Keep} {m sz c u g : Nat} {d a : Int} {cs vs args : List AV} {nid : Option Nat} {ts : List Int} {P : Program}
open Go.ChangeShapes Go.WideShapes Go.ChangeAt Go.RowKit
inductive Lf where
 |int (k:IntKind)
 |bool
 |ints
 deriving DecidableEq
section
variable {H : Type} {enc : TypeId × Value -> H} {P : Program} {w : World}
end
def smps(l:List (Int×Int)):List AV:=l.flatMap fun p=>[.int .i64 p.1,.int .i64 p.2]
theorem jcG{p:Int×Int}{l:List (Int×Int)}:smps (p::l)=.int .i64 p.1:: .int .i64 p.2::smps l:=rfl
theorem jaV{l:List (Int×Int)}:(smps l).length=l.length*2:=by
 induction l with
 |nil=>rfl
 |cons p l ih=>rw[jcG,List.length_cons,List.length_cons,List.length_cons,ih];omega
theorem jfX:∀{l:List (Int×Int)} {k:Nat},(smps l)[k*2]? =(l[k]?).map fun p=>.int .i64 p.1
 |[],k=>by simp[smps]
 |p::l,0=>rfl
 |p::l,k+1=>by rw[jcG,show(k+1)*2=k*2+1+1 by omega,List.getElem?_cons_succ,List.getElem?_cons_succ,List.getElem?_cons_succ];exact jfX
theorem jfY:∀{l:List (Int×Int)} {k:Nat},(smps l)[k*2+1]? =(l[k]?).map fun p=>.int .i64 p.2
 |[],k=>by simp[smps]
 |p::l,0=>rfl
 |p::l,k+1=>by rw[jcG,show(k+1)*2+1=k*2+1+1+1 by omega,List.getElem?_cons_succ,List.getElem?_cons_succ,List.getElem?_cons_succ];exact jfY
theorem jmI{l m:List (Int×Int)}:smps l++smps m=smps (l++m):=by simp[smps]
theorem jlu{l:List (Int×Int)}{x y:Int}:smps l++[.int .i64 x,.int .i64 y]=smps (l++[(x,y)]):=by rw[<-jmI];rfl
def SI(h:Heap)(v:AV)(l:List (Int×Int)):Prop:=SL h 2 v l.length (smps l)
structure InSmp where
 l:List (Int×Int)
 nil:Bool
 blk:Nat
 off:Nat
 cap:Nat
structure InSmp.ok (x:InSmp) (w:World):Prop where
 isNil:x.nil=true->x.l=[]
 cap:x.nil=false->x.l.length<=x.cap
 lt:x.l.length<9223372036854775808
 blk:x.nil=false->x.blk<w.heap.size
 cell:∀k p,x.l[k]? =some p->w.cell? ⟨x.blk,x.off+k*2,none⟩=some (.int .i64 p.1)/\w.cell? ⟨x.blk,x.off+k*2+1,none⟩=some (.int .i64 p.2)
 num:∀p∈x.l,(-9223372036854775808<=p.1/\p.1<=9223372036854775807)/\(-9223372036854775808<=p.2/\p.2<=9223372036854775807)
section
variable {H : Type} {enc : TypeId × Value -> H} {P : Program} {w : World}
end
theorem kaM{l:List (Int×Int)}{i:Nat}{wr:Bool}(hg:h.get i=some (.cells (smps l) wr u))(hm:m=l.length/\m<9223372036854775808)(hc:m<=c):SI h (.slice i 0 m (.known c)) l:=by
 obtain⟨rfl,hm⟩:=hm;refine⟨jaV,hm,.inr ⟨i,0,_,_,wr,u,rfl,hg,by rw[jaV];omega,?_,hc⟩⟩;exact jmH (by rw[jaV])
theorem kbw:SI h .nilslice []:=⟨rfl,by decide,.inl ⟨rfl,rfl⟩⟩
end Go.Ae
namespace Go.Ae
variable {C : Ctx} {h h' h0 : Heap} {v : AV} {w : World} {env : Env} {kp : Keep} {m sz c u g : Nat} {d a : Int} {cs vs args : List AV} {nid : Option Nat} {ts : List Int} {P : Program}
open Go.Conc
def permOf(kp0:Keep)(w0 W:World)(sl:List WSt):Nat->Option Keep
 |0=>some (cur kp0 w0 W)
 |j+1=>(sl[j]?).bind (WSt.perm W)
def rec0(c:Nat)(g0:Goroutine):Option Value->Goroutine
 |none=>g0
 |some z=>parked g0 #[rcase c z] (.recv false)
structure CInv (P:Program) (c:Nat) (ps:List Prom) (kp0:Keep) (g0:Goroutine) (w0:World) (pk:Option Value) (sl:List WSt) (gs:Array Goroutine) (W:World) (t:Trace):Prop where
 size:gs.size=sl.length+1
 zero:gs[0]? =some (rec0 c g0 pk)
 run0:g0.status=.running
 rely0:Rely kp0 w0 (cur kp0 w0 W) W
 slot:∀j x,sl[j]? =some x->gs[j+1]? =some (x.gor c)/\x.ok P c W
 proms:ps=sl.filterMap WSt.prom?
 chan:ps≠[]->(∃s,W.heap[c]? =some (.chan 0 #[] false s s false))/\kp0.hide c
 pkps:pk≠none->ps≠[]/\∀x∈sl,∀Φ kp g w v z T n,x≠.wait Φ kp g w v z T n
 gnum:∀op∈t,op.g<gs.size
 trace:TInv t W.heap.size (permOf kp0 w0 W sl)
theorem jgx{W W':World}(h1:w.heap.size<=W.heap.size)(h2:W.heap.size<=W'.heap.size):(cur kp w W).wider W.heap.size W'.heap.size=cur kp w W':=kaO _ h1 h2
theorem JW.running{Φ:Prom}{g:Goroutine}(h:JW P c Φ kp g w):g.status=.running:=by
 cases h with
 |step h _=>exact(h _ _ (kaw _ _)).1
 |send _ _ _ _ h=>exact h
theorem JM.running{Fin:Value->World->Prop}{ps:List Prom}{g:Goroutine}(h:JM P Fin c ps kp g w):g.status=.running:=by
 cases h with
 |step h _=>exact(h _ _ (kaw _ _)).1
 |spawn _ _ h=>exact h
 |recv _ h=>exact h
 |done h=>exact(h _ _ (kaw _ _)).1
section
variable {P : Program} {c : Nat} {ps : List Prom} {kp0 : Keep} {g0 : Goroutine} {w0 : World} {pk : Option Value} {sl : List WSt} {gs : Array Goroutine} {W : World} {t : Trace}
theorem kbu{x:WSt}(h:x.ok P c W):(x.gor c).status=.running\/(x.gor c).status=.finished\/((x.gor c).status=.blocked/\∃Φ kp g w v z T n,x=.wait Φ kp g w v z T n):=by
 cases x with
 |busy=>exact .inl h.1.running
 |wait=>exact .inr (.inr ⟨rfl,_,_,_,_,_,_,_,_,rfl⟩)
 |gone=>exact h.status.imp id .inl
theorem CInv.get(I:CInv P c ps kp0 g0 w0 pk sl gs W t){k:Nat}{y:Goroutine}(hy:gs[k]? =some y):(k=0/\y=rec0 c g0 pk)\/∃j x,k=j+1/\sl[j]? =some x/\y=x.gor c/\x.ok P c W:=by
 cases k with
 |zero=>rw[I.zero]at hy;exact .inl ⟨rfl,(Option.some.inj hy).symm⟩
 |succ j=>
  have hlt:=(Array.getElem?_eq_some_iff.1 hy).1;have hj:j<sl.length:=by have:=I.size;omega
  have:=I.slot j _ (List.getElem?_eq_getElem hj);rw[this.1]at hy;exact .inr ⟨j,_,rfl,List.getElem?_eq_getElem hj,(Option.some.inj hy).symm,this.2⟩
theorem jdk{x:WSt}{Φ:Prom}(hx:x∈sl)(h:x.prom?=some Φ):sl.filterMap WSt.prom?≠[]:=by
 intro e;have:Φ∈sl.filterMap WSt.prom?:=List.mem_filterMap.2 ⟨x,hx,h⟩;rw[e]at this;cases this
theorem CInv.awake(I:CInv P c ps kp0 g0 w0 pk sl gs W t):∀g∈gs,awake g:=by
 intro g hg;obtain⟨k,hk,rfl⟩:=Array.mem_iff_getElem.1 hg;rcases I.get (Array.getElem?_eq_getElem hk)with⟨_,e⟩|⟨j,x,_,_,e,hx⟩
 ·rw[e];cases pk with
  |none=>exact fun t=>by simp[rec0,I.run0]
  |some z=>exact fun t=>by simp[rec0,parked]
 ·rw[e];rcases kbu hx with h|h|⟨h,_⟩<;>exact fun t=>by rw[h];simp
theorem CInv.fixed(I:CInv P c ps kp0 g0 w0 pk sl gs W t){W':World}(hc:ps≠[]->W'.heap[c]? =W.heap[c]?){k:Nat}{y a a':Goroutine}(hy:gs[k]? =some y):woken P a a' W' y=y:=by
 have key:y.again W'=y:=by
  rcases I.get hy with⟨_,e⟩|⟨j,x,_,hx,e,hok⟩
  ·rw[e];cases hpk:pk with
   |none=>exact again_running _ (.inl I.run0)
   |some z=>
    have hp:=(I.pkps (by rw[hpk];simp)).1;obtain⟨⟨s,hs⟩,_⟩:=I.chan hp;exact again_recv_open (cap:=0) (buf:= #[]) (s:=s) (r:=s) (tm:=false) (by rw[hc hp];exact hs)
  ·rw[e];cases x with
   |busy=>exact again_running _ (.inl hok.1.running)
   |gone=>exact again_running _ hok.status
   |wait Φ kp g w v z T n=>
    have hp:ps≠[]:=by rw[I.proms];exact jdk (List.mem_of_getElem? hx) rfl
    obtain⟨⟨s,hs⟩,_⟩:=I.chan hp;exact again_send_open (cap:=0) (buf:= #[]) (s:=s) (r:=s) (tm:=false) (by rw[hc hp];exact hs)
 unfold woken;split
 ·exact key
 ·rfl
theorem kaL{x:WSt}{W':World}(h:x.ok P c W)(hr:∀k,x.perm W=some k->Rely k W (k.wider W.heap.size W'.heap.size) W'):x.ok P c W':=by
 cases x with
 |busy Φ kp g w=>
  have r:=hr _ rfl;have:=h.2.1.trans r;rw[jgx h.2.1.size r.size]at this;exact⟨h.1,this,h.2.2⟩
 |wait Φ kp g w v z T n=>
  have r:=hr _ rfl;have:=h.1.trans r;rw[jgx h.1.size r.size]at this;exact⟨this,h.2⟩
 |gone=>exact h
theorem kaK{x:WSt}{W':World}(h:x.ok P c W)(hW:W.heap.size<=W'.heap.size):x.perm W'=(x.perm W).map fun k=>k.wider W.heap.size W'.heap.size:=by
 cases x with
 |busy Φ kp g w=>simp only[WSt.perm,Option.map_some];rw[jgx h.2.1.size hW]
 |wait Φ kp g w v z T n=>simp only[WSt.perm,Option.map_some];rw[jgx h.1.size hW]
 |gone=>rfl
theorem jbg{j:Nat}{x:WSt}(hx:sl[j]? =some x):permOf kp0 w0 W sl (j+1)=x.perm W:=by simp[permOf,hx]
theorem CInv.at(I:CInv P c ps kp0 g0 w0 pk sl gs W t)(d:Nat):CInv P c ps kp0 g0 w0 pk sl gs (W.at d) t:=by
 refine⟨I.size,I.zero,I.run0,I.rely0.at d,fun j x hx=>⟨(I.slot j x hx).1,?_⟩,I.proms,I.chan,I.pkps,I.gnum,I.trace⟩;refine kaL (I.slot j x hx).2 fun k _=>?_;exact⟨Nat.le_refl _,rfl,rfl,rfl,fun _ _ _=>rfl,rfl⟩
theorem jqf{k kg:Keep}{W W':World}(K:KeepW kg W W')(hex:∀b,b<W.heap.size->¬kg.no b->k.hide b):Rely k W (k.wider W.heap.size W'.heap.size) W':=
 ⟨K.size,K.os,K.tape,K.output,fun r hr hn=>K.block r (.inl (Classical.byContradiction fun z=>hn (hex r hr z))),rfl⟩
theorem jdH{f:Goroutine->Goroutine}{i:Nat}{x:Goroutine}{k:Nat}{y:Goroutine}(hne:i≠k)(hy:gs[k]? =some y)(hf:f y=y):((gs.map f).setIfInBounds i x)[k]? =some y:=by
 rw[Array.getElem?_setIfInBounds_ne hne,Array.getElem?_map,hy];simp[hf]
theorem getElem?_mid{α:Type}(A:List α)(x:α)(B:List α):(A++x::B)[A.length]? =some x:=by simp
theorem getElem?_mid_ne{α:Type}(A:List α)(x y:α)(B:List α){j:Nat}(h:j≠A.length):(A++y::B)[j]? =(A++x::B)[j]? :=by
 rcases Nat.lt_or_ge j A.length with h1|h1
 ·rw[List.getElem?_append_left h1,List.getElem?_append_left h1]
 ·rw[List.getElem?_append_right h1,List.getElem?_append_right h1];obtain⟨m,hm⟩:∃m,j-A.length=m+1:=⟨j-A.length-1,by omega⟩;rw[hm];simp
theorem jbZ(kp:Keep)(W:World):cur kp W W=kp:=kaB _ _
theorem CInv.sub0(I:CInv P c ps kp0 g0 w0 pk sl gs W t):(∀r,(cur kp0 w0 W).hide r->(cur kp0 w0 W).no r)/\∀r,(cur kp0 w0 W).no r->r<W.heap.size:=I.trace.sub 0 _ rfl
theorem CInv.curHide(I:CInv P c ps kp0 g0 w0 pk sl gs W t)(h:ps≠[]):(cur kp0 w0 W).hide c:=.inl (I.chan h).2
theorem jho{n:Nat}{u:Trace}(h:∀op∈t,op.g<n)(hu:∀op∈u,op.g<n):∀op∈t++u,op.g<n:=fun op hop=>(Array.mem_append.1 hop).elim (h op) (hu op)
theorem CInv.own0(I:CInv P c ps kp0 g0 w0 none sl gs W t){g':Goroutine}{W':World}{es:Array Event}(hrun:g'.status=.running)(K:KeepW (cur kp0 w0 W) W W')(hes:∀e∈es,EvIn (cur kp0 w0 W) W'.heap.size e)(a a':Goroutine)(fn:FuncId)(pos:String):
  CInv P c ps (cur kp0 w0 W) g' W' none sl ((gs.map (woken P a a' W')).setIfInBounds 0 g') W' (t++MemOp.ofEvents 0 fn pos es):=by
 have hc:ps≠[]->W'.heap[c]? =W.heap[c]? :=fun h=>K.block c (.inl (I.sub0.1 _ (I.curHide h)));have hsz:((gs.map (woken P a a' W')).setIfInBounds 0 g').size=gs.size:=by simp
 have hex:∀(j:Nat) (x:WSt) (k:Keep),sl[j]? =some x->x.perm W=some k->∀b,b<W.heap.size->¬(cur kp0 w0 W).no b->k.hide b:=fun j x k hx hk b hb hn=>
  I.trace.excl 0 (j+1) _ _ (by omega) rfl (by rw[jbg hx];exact hk) b hb hn
 have hok:∀(j:Nat) (x:WSt),sl[j]? =some x->x.ok P c W':=fun j x hx=>kaL (I.slot j x hx).2 fun k hk=>jqf K (hex j x k hx hk);refine⟨hsz.trans I.size,?_,hrun,?_,fun j x hx=>⟨?_,hok j x hx⟩,I.proms,fun h=>⟨?_,?_⟩,fun h=>absurd rfl h,?_,?_⟩
 ·have hlt:=(Array.getElem?_eq_some_iff.1 I.zero).1;rw[Array.getElem?_setIfInBounds_self_of_lt (by simpa using hlt)];rfl
 ·rw[jbZ];exact kaw _ _
 ·exact jdH (by omega) (I.slot j x hx).1 (I.fixed hc (I.slot j x hx).1)
 ·rw[hc h];exact(I.chan h).1
 ·exact I.curHide h
 ·rw[hsz];refine jho I.gnum fun op hop=>?_;obtain⟨e,_,rfl⟩:=Go.Conc.mem_ofEvents hop;have:=I.size;show 0<gs.size;omega
 ·refine I.trace.own (g:=0) (kp:=cur kp0 w0 W) rfl K.size hes fun g'=>?_;cases g' with
  |zero=>simp only[permOf,if_true,jbZ]
  |succ j=>
   rw[if_neg (by omega)];cases hx:sl[j]? with
   |none=>simp[permOf,hx]
   |some x=>rw[jbg hx,jbg hx,kaK (I.slot j x hx).2 K.size]
theorem CInv.ownJ{A B:List WSt}{Φ:Prom}{kp:Keep}{g:Goroutine}{w:World}(I:CInv P c ps kp0 g0 w0 pk (A++ .busy Φ kp g w::B) gs W t){g':Goroutine}{W':World}{es:Array Event}
  (hj:JW P c Φ (cur kp w W) g' W') (K:KeepW (cur kp w W) W W') (hes:∀e∈es,EvIn (cur kp w W) W'.heap.size e) (a a':Goroutine) (fn:FuncId) (pos:String):
  CInv P c ps kp0 g0 w0 pk (A++ .busy Φ (cur kp w W) g' W'::B) ((gs.map (woken P a a' W')).setIfInBounds (A.length+1) g') W' (t++MemOp.ofEvents (A.length+1) fn pos es):=by
 have hme:=getElem?_mid A (.busy Φ kp g w) B;have hS:=I.slot _ _ hme;have hps:ps≠[]:=by rw[I.proms];exact jdk (x:=.busy Φ kp g w) (by simp) rfl
 have hmeP:permOf kp0 w0 W (A++ .busy Φ kp g w::B) (A.length+1)=some (cur kp w W):=by rw[jbg hme];rfl
 have sj:=I.trace.sub _ _ hmeP;have hhc:(cur kp w W).hide c:=.inl hS.2.2.2;have hc:ps≠[]->W'.heap[c]? =W.heap[c]? :=fun _=>K.block c (.inl (sj.1 _ hhc));have hsz:((gs.map (woken P a a' W')).setIfInBounds (A.length+1) g').size=gs.size:=by simp
 have hlt:A.length+1<gs.size:=(Array.getElem?_eq_some_iff.1 hS.1).1;have hother:∀j,j≠A.length->(A++ .busy Φ (cur kp w W) g' W'::B)[j]? =(A++ .busy Φ kp g w::B)[j]? :=fun j h=>getElem?_mid_ne _ _ _ _ h;have r0:Rely (cur kp0 w0 W) W ((cur kp0 w0 W).wider W.heap.size W'.heap.size) W':=jqf K fun b hb hn=>I.trace.excl (A.length+1) 0 _ _ (by omega) hmeP rfl b hb hn;have R0:Rely kp0 w0 (cur kp0 w0 W') W':=by
  have:=I.rely0.trans r0
  rwa [jgx I.rely0.size K.size]at this
 refine⟨by rw[hsz,I.size];simp,?_,I.run0,R0,fun j x hx=>?_,?_,fun h=>⟨?_,(I.chan h).2⟩,fun h=>⟨hps,?_⟩,?_,?_⟩
 ·exact jdH (by omega) I.zero (I.fixed hc I.zero)
 ·by_cases e:j=A.length
  ·subst e;rw[getElem?_mid]at hx;cases hx;refine⟨by rw[Array.getElem?_setIfInBounds_self_of_lt (by simpa using hlt)];rfl,hj,?_,hhc⟩;rw[jbZ];exact kaw _ _
  ·rw[hother j e]at hx;have hxs:=I.slot j x hx;refine⟨jdH (by omega) hxs.1 (I.fixed hc hxs.1),kaL hxs.2 fun k hk=>jqf K fun b hb hn=>?_⟩;exact I.trace.excl (A.length+1) (j+1) _ _ (by omega) hmeP (by rw[jbg hx];exact hk) b hb hn
 ·rw[I.proms];simp[List.filterMap_append,List.filterMap_cons,WSt.prom?]
 ·rw[hc h];exact(I.chan h).1
 ·intro x hx;rcases List.mem_append.1 hx with hx|hx
  ·exact(I.pkps h).2 x (List.mem_append.2 (.inl hx))
  ·rcases List.mem_cons.1 hx with rfl|hx
   ·intro _ _ _ _ _ _ _ _ e;cases e
   ·exact(I.pkps h).2 x (List.mem_append.2 (.inr (List.mem_cons_of_mem _ hx)))
 ·rw[hsz];refine jho I.gnum fun op hop=>?_;obtain⟨e,_,rfl⟩:=Go.Conc.mem_ofEvents hop;exact hlt
 ·refine I.trace.own (g:=A.length+1) (kp:=cur kp w W) hmeP K.size hes fun g'=>?_;cases g' with
  |zero=>
   rw[if_neg (by omega)];simp only[permOf,Option.map_some];rw[jgx I.rely0.size K.size]
  | succ j =>
   by_cases e:j=A.length
   ·subst e;rw[if_pos rfl,jbg (getElem?_mid A _ B)];simp only[WSt.perm,jbZ]
   ·rw[if_neg (by omega)];simp only[permOf,hother j e];cases hx:(A++WSt.busy Φ kp g w::B)[j]? with
    |none=>rfl
    |some x=>simp only[Option.bind_some];rw[kaK (I.slot j x hx).2 K.size]
theorem CInv.slip{A B:List WSt}{n:Nat}{g g':Goroutine}(I:CInv P c ps kp0 g0 w0 pk (A++ .gone (n+1) g::B) gs W t)(hq:QuitsIn P n g')(a a':Goroutine)(fn:FuncId)(pos:String):
  CInv P c ps kp0 g0 w0 pk (A++ .gone n g'::B) ((gs.map (woken P a a' W)).setIfInBounds (A.length+1) g') W (t++MemOp.ofEvents (A.length+1) fn pos #[]):=by
 have hme:=getElem?_mid A (.gone (n+1) g) B;have hS:=I.slot _ _ hme;have hlt:A.length+1<gs.size:=(Array.getElem?_eq_some_iff.1 hS.1).1;have hsz:((gs.map (woken P a a' W)).setIfInBounds (A.length+1) g').size=gs.size:=by simp
 have hother:∀j,j≠A.length->(A++ .gone n g'::B)[j]? =(A++ .gone (n+1) g::B)[j]? :=fun j h=>getElem?_mid_ne _ _ _ _ h;have e0:t++MemOp.ofEvents (A.length+1) fn pos #[]=t:=by simp[MemOp.ofEvents]
 rw[e0];refine⟨by rw[hsz,I.size];simp,?_,I.run0,I.rely0,fun j x hx=>?_,?_,I.chan,fun h=>⟨(I.pkps h).1,?_⟩,by rw[hsz];exact I.gnum,?_⟩
 ·exact jdH (by omega) I.zero (I.fixed (fun _=>rfl) I.zero)
 ·by_cases e:j=A.length
  ·subst e;rw[getElem?_mid]at hx;cases hx;exact⟨by rw[Array.getElem?_setIfInBounds_self_of_lt (by simpa using hlt)];rfl,hq⟩
  ·rw[hother j e]at hx;have hxs:=I.slot j x hx;exact⟨jdH (by omega) hxs.1 (I.fixed (fun _=>rfl) hxs.1),hxs.2⟩
 ·rw[I.proms];simp[List.filterMap_append,List.filterMap_cons,WSt.prom?]
 ·intro x hx;rcases List.mem_append.1 hx with hx|hx
  ·exact(I.pkps h).2 x (List.mem_append.2 (.inl hx))
  ·rcases List.mem_cons.1 hx with rfl|hx
   ·intro _ _ _ _ _ _ _ _ e;cases e
   ·exact(I.pkps h).2 x (List.mem_append.2 (.inr (List.mem_cons_of_mem _ hx)))
 ·have:permOf kp0 w0 W (A++ .gone n g'::B)=permOf kp0 w0 W (A++ .gone (n+1) g::B):=by
   funext k;cases k with
   |zero=>rfl
   |succ j=>
    by_cases e:j=A.length
    ·subst e;rw[jbg (getElem?_mid A _ B),jbg (getElem?_mid A _ B)];rfl
    ·simp only[permOf,hother j e]
  rw[this];exact I.trace
theorem CInv.park{A B:List WSt}{Φ:Prom}{kp:Keep}{g:Goroutine}{w:World}(I:CInv P c ps kp0 g0 w0 none (A++ .busy Φ kp g w::B) gs W t){v z:Value}{T:Nat->Prop}{n:Nat}
  (hΦ:∀kp1 w1,Rely kp w kp1 w1->Φ v w1 T) (hT:∀r,T r->r<w.heap.size/\¬kp.no r) (hq:QuitsIn P n (Conc.served g undef)):
  CInv P c ps kp0 g0 w0 none (A++ .wait Φ kp g w v z T n::B) (gs.setIfInBounds (A.length+1) (parked g #[scase c v z] .send)) W t:=by
 have hme:=getElem?_mid A (.busy Φ kp g w) B;have hS:=I.slot _ _ hme;have hlt:A.length+1<gs.size:=(Array.getElem?_eq_some_iff.1 hS.1).1;have hother:∀j,j≠A.length->(A++ .wait Φ kp g w v z T n::B)[j]? =(A++ .busy Φ kp g w::B)[j]? :=fun j h=>getElem?_mid_ne _ _ _ _ h;refine⟨by rw[Array.size_setIfInBounds,I.size];simp,?_,I.run0,I.rely0,fun j x hx=>?_,?_,I.chan,fun h=>absurd rfl h,by rw[Array.size_setIfInBounds];exact I.gnum,?_⟩
 ·rw[Array.getElem?_setIfInBounds_ne (by omega)];exact I.zero
 ·by_cases e:j=A.length
  ·subst e;rw[getElem?_mid]at hx;cases hx;exact⟨by rw[Array.getElem?_setIfInBounds_self_of_lt hlt];rfl,hS.2.2.1,hS.2.2.2,hΦ,hT,hq⟩
  ·rw[hother j e]at hx;have hxs:=I.slot j x hx;exact⟨by rw[Array.getElem?_setIfInBounds_ne (by omega)];exact hxs.1,hxs.2⟩
 ·rw[I.proms];simp[List.filterMap_append,List.filterMap_cons,WSt.prom?]
 ·have:permOf kp0 w0 W (A++ .wait Φ kp g w v z T n::B)=permOf kp0 w0 W (A++ .busy Φ kp g w::B):=by
   funext k;cases k with
   |zero=>rfl
   |succ j=>
    by_cases e:j=A.length
    ·subst e;rw[jbg (getElem?_mid A _ B),jbg (getElem?_mid A _ B)];rfl
    ·simp only[permOf,hother j e]
  rw[this];exact I.trace
theorem CInv.park0(I:CInv P c ps kp0 g0 w0 none sl gs W t)(z:Value)(hps:ps≠[])(hno:∀x∈sl,∀Φ kp g w v z T n,x≠.wait Φ kp g w v z T n):
  CInv P c ps kp0 g0 w0 (some z) sl (gs.setIfInBounds 0 (parked g0 #[rcase c z] (.recv false))) W t:=by
 refine⟨by rw[Array.size_setIfInBounds];exact I.size,?_,I.run0,I.rely0,fun j x hx=>?_,I.proms,I.chan,fun _=>⟨hps,hno⟩,by rw[Array.size_setIfInBounds];exact I.gnum,I.trace⟩
 ·have hlt:=(Array.getElem?_eq_some_iff.1 I.zero).1;rw[Array.getElem?_setIfInBounds_self_of_lt hlt];rfl
 ·have:=I.slot j x hx;exact⟨by rw[Array.getElem?_setIfInBounds_ne (by omega)];exact this.1,this.2⟩
theorem jlv(W:World)(c cap:Nat)(buf:Array Value)(cl:Bool)(s r:Nat)(tm:Bool){k:Nat}(h:k≠c):(W.setChan c cap buf cl s r tm).heap[k]? =W.heap[k]? :=by
 simp only[World.setChan];rw[Array.getElem?_setIfInBounds_ne (Ne.symm h)]
theorem jr8{k:Keep}{W:World}(hc:k.hide c)(d s r:Nat):Rely k W (k.wider W.heap.size ((W.at d).setChan c 0 #[] false s r false).heap.size) ((W.at d).setChan c 0 #[] false s r false):=by
 have hs:((W.at d).setChan c 0 #[] false s r false).heap.size=W.heap.size:=by simp[World.setChan,World.at]
 refine⟨by omega,rfl,rfl,rfl,fun q hq hn=>?_,rfl⟩;rw[jlv _ _ _ _ _ _ _ _ (by rintro rfl;exact hn hc)];rfl
theorem CInv.meet{A B:List WSt}{x:WSt}{Φ:Prom}{kp:Keep}{g:Goroutine}{w:World}{v:Value}{T:Nat->Prop}{n:Nat}(I:CInv P c ps kp0 g0 w0 pk (A++x::B) gs W t)
  (hx:(x=.busy Φ kp g w\/∃z,x=.wait Φ kp g w v z T n)) (hΦ:∀kp1 w1,Rely kp w kp1 w1->Φ v w1 T) (hT:∀r,T r->r<w.heap.size/\¬kp.no r) (hq:QuitsIn P n (Conc.served g undef)) (hrel:Rely kp w (cur kp w W) W) (hkc:kp.hide c)
  (hothers:pk≠none\/True) (d:Nat) {s:Nat} (hs:W.heap[c]? =some (.chan 0 #[] false s s false)) (f0 fj:FuncId) (p0 pj:String) {gs':Array Goroutine} (hgs:∀k y,gs[k]? =some y->k≠0->k≠A.length+1->gs'[k]? =some y)
  (hg0:gs'[0]? =some (Conc.served g0 v)) (hgj:gs'[A.length+1]? =some (Conc.served g undef)) (hgsz:gs'.size=gs.size):
  ∃ PA PB, ps = PA ++ Φ :: PB /\ Φ v (W.at d) T /\ (∀ r, T r -> r < (W.at d).heap.size /\ (cur kp0 w0 W).hide r /\ r ≠ c) /\
   CInv P c (PA++PB) ((cur kp0 w0 W).take T (PA++PB=[])) (Conc.served g0 v) ((W.at d).setChan c 0 #[] false (s+1) (s+1) false) none (A++ .gone n (Conc.served g undef)::B) gs' ((W.at d).setChan c 0 #[] false (s+1) (s+1) false)
    (t++ #[{g:=A.length+1,fn:=fj,pos:=pj,act:=.send c s},{g:=0,fn:=f0,pos:=p0,act:=.recv c s 0},{g:=A.length+1,fn:=fj,pos:=pj,act:=.sendDone c s},{g:=0,fn:=f0,pos:=p0,act:=.recvDone c s}]):=by
 have hme:=getElem?_mid A x B;have hS:=I.slot _ _ hme;have hprom:x.prom?=some Φ:=by rcases hx with rfl|⟨z,rfl⟩<;>rfl
 have hxp:x.perm W=some (cur kp w W):=by rcases hx with rfl|⟨z,rfl⟩<;>rfl
 have hmeP:permOf kp0 w0 W (A++x::B) (A.length+1)=some (cur kp w W):=by rw[jbg hme];exact hxp
 have hps:ps≠[]:=by rw[I.proms];exact jdk (x:=x) (by simp) hprom
 have hsplit:ps=A.filterMap WSt.prom?++Φ::B.filterMap WSt.prom?:=by rw[I.proms,List.filterMap_append,List.filterMap_cons,hprom]
 have hother:∀j,j≠A.length->(A++ .gone n (Conc.served g undef)::B)[j]? =(A++x::B)[j]? :=fun j h=>getElem?_mid_ne _ _ _ _ h;have hWs:((W.at d).setChan c 0 #[] false (s+1) (s+1) false).heap.size=W.heap.size:=by simp[World.setChan,World.at]
 have sj:=I.trace.sub _ _ hmeP;have hT':∀r,T r->r<W.heap.size/\¬(cur kp w W).no r:=fun r hr=>by
  obtain⟨h1,h2⟩:=hT r hr;refine⟨Nat.lt_of_lt_of_le h1 hrel.size,?_⟩;rintro(h|⟨h,_⟩)
  ·exact h2 h
  ·omega
 have hThide:∀r,T r->(cur kp0 w0 W).hide r:=fun r hr=>I.trace.excl (A.length+1) 0 _ _ (by omega) hmeP rfl r (hT' r hr).1 (hT' r hr).2;have hTc:∀r,T r->r≠c:=by
  rintro r hr rfl;exact(hT' r hr).2 (sj.1 _ (.inl hkc))
 have hperm:∀(j:Nat) (y:WSt),(A++x::B)[j]? =some y->∀k:Keep,y.perm W=some k->k.hide c:=by
  intro j y hy k hk;have ok:=(I.slot j y hy).2;cases y with
  |busy=>cases hk;exact .inl ok.2.2
  |wait=>cases hk;exact .inl ok.2.1
  |gone=>cases hk
 refine⟨A.filterMap WSt.prom?,B.filterMap WSt.prom?,hsplit,hΦ _ _ (hrel.at d),fun r hr=>⟨(hT' r hr).1,hThide r hr,hTc r hr⟩,?_⟩;refine⟨by rw[hgsz,I.size];simp,hg0,rfl,?_,fun j y hy=>?_,?_,fun h=>⟨⟨s+1,?_⟩,?_⟩,fun h=>absurd rfl h,?_,?_⟩
 ·rw[jbZ];exact kaw _ _
 ·by_cases e:j=A.length
  ·subst e;rw[getElem?_mid]at hy;cases hy;exact⟨hgj,hq⟩
  ·rw[hother j e]at hy;have hys:=I.slot j y hy;exact⟨hgs _ _ hys.1 (by omega) (by omega),kaL hys.2 fun k hk=>jr8 (hperm j y hy k hk) d _ _⟩
 ·simp[List.filterMap_append,List.filterMap_cons,WSt.prom?]
 ·simp only[World.setChan];rw[Array.getElem?_setIfInBounds_self_of_lt];exact(Array.getElem?_eq_some_iff.1 hs).1
 ·exact⟨.inl (I.chan hps).2,fun h=>hTc c h rfl⟩
 ·rw[hgsz];have h0:=(Array.getElem?_eq_some_iff.1 I.zero).1;have h1:=(Array.getElem?_eq_some_iff.1 hS.1).1;refine jho I.gnum fun op hop=>?_;simp at hop;rcases hop with rfl|rfl|rfl|rfl<;>first|exact h1|exact h0
 ·rw [hWs];refine I.trace.meet (kp := cur kp0 w0 W) (kj := cur kp w W) rfl (j := A.length + 1) (by omega) hmeP hT' (last := (A.filterMap WSt.prom? ++ B.filterMap WSt.prom? = [])) ?_ ?_
  ·intro hl k hk0 hkj;cases k with
   |zero=>exact absurd rfl hk0
   | succ j =>
    have ej:j≠A.length:=by omega
    simp only[permOf];cases hy:(A++x::B)[j]? with
    |none=>rfl
    | some y =>
     simp only[Option.bind_some];cases hyp:y.prom? with
     |none=>cases y<;>first|rfl|cases hyp
     |some Ψ=>
      exfalso;rw[<-hother j ej]at hy;have hm:Ψ∈(A++ .gone n (Conc.served g undef)::B).filterMap WSt.prom?:=List.mem_filterMap.2 ⟨y,List.mem_of_getElem? hy,hyp⟩;simp only[List.filterMap_append,List.filterMap_cons,WSt.prom?]at hm;rw[hl]at hm;cases hm
  ·intro k;cases k with
   |zero=>simp only[permOf,if_true,jbZ]
   | succ j =>
    rw[if_neg (by omega)];by_cases e:j=A.length
    ·subst e;rw[if_pos rfl,jbg (getElem?_mid A _ B)];rfl
    ·rw[if_neg (by omega)];simp only[permOf,hother j e];cases hy:(A++x::B)[j]? with
     |none=>rfl
     |some y=>
      simp only[Option.bind_some];rw[kaK (I.slot j y hy).2 (by omega),hWs];cases y.perm W<;>simp[kaB]
theorem CInv.spawn(I:CInv P c ps kp0 g0 w0 none sl gs W t){c':Nat}{Φ:Prom}(hc':(ps=[]/\¬(cur kp0 w0 W).no c'/\W.heap[c']? =some (.chan 0 #[] false 0 0 false))\/(ps≠[]/\c'=c)){g' ch:Goroutine}(hrun:g'.status=.running)
  (hj:JW P c' Φ ((cur kp0 w0 W).shared W.heap.size c') ch W) (fn fc:FuncId) (p p':String):
  CInv P c' (ps++[Φ]) ((cur kp0 w0 W).shared W.heap.size c') g' W none (sl++[.busy Φ ((cur kp0 w0 W).shared W.heap.size c') ch W]) ((gs.setIfInBounds 0 g').push ch) W
   (t++ #[{g:=0,fn:=fn,pos:=p,act:=.go gs.size},{g:=gs.size,fn:=fc,pos:=p',act:=.start}]):=by
 have h0:=(Array.getElem?_eq_some_iff.1 I.zero).1;have hlt:c'<W.heap.size:=by
  rcases hc' with⟨_,_,h⟩|⟨h,rfl⟩
  ·exact(Array.getElem?_eq_some_iff.1 h).1
  ·obtain⟨⟨s,hs⟩,_⟩:=I.chan h;exact(Array.getElem?_eq_some_iff.1 hs).1
 have hold:∀(j:Nat) (x:WSt),sl[j]? =some x->x.gor c'=x.gor c/\x.ok P c' W:=by
  intro j x hx;rcases hc' with⟨hp,_⟩|⟨_,rfl⟩
  ·have hok:=(I.slot j x hx).2;cases x with
   |gone=>exact⟨rfl,hok⟩
   |busy=>exact absurd hp (by rw[I.proms];exact jdk (List.mem_of_getElem? hx) rfl)
   |wait=>exact absurd hp (by rw[I.proms];exact jdk (List.mem_of_getElem? hx) rfl)
  ·exact⟨rfl,(I.slot j x hx).2⟩
 have hhc:((cur kp0 w0 W).shared W.heap.size c').hide c':=.inr rfl;have hsz:((gs.setIfInBounds 0 g').push ch).size=gs.size+1:=by simp
 have hn:gs.size=sl.length+1:=I.size;refine⟨by rw[hsz,hn];simp,?_,hrun,by rw[jbZ];exact kaw _ _,fun j x hx=>?_,?_,fun _=>⟨?_,hhc⟩,fun h=>absurd rfl h,?_,?_⟩
 ·rw[Array.getElem?_push,if_neg (by simp;omega),Array.getElem?_setIfInBounds_self_of_lt h0];rfl
 ·rcases Nat.lt_or_ge j sl.length with hl|hl
  ·rw[List.getElem?_append_left hl]at hx;have:=I.slot j x hx;refine⟨?_,(hold j x hx).2⟩;rw[(hold j x hx).1,Array.getElem?_push,if_neg (by simp;omega),Array.getElem?_setIfInBounds_ne (by omega)];exact this.1
  ·rw[List.getElem?_append_right hl]at hx;have hj0:j-sl.length=0:=by
    rcases Nat.eq_zero_or_pos (j-sl.length)with e|e
    ·exact e
    ·rw[List.getElem?_eq_none (by simp;omega)]at hx;cases hx
   rw[hj0]at hx;simp only[List.getElem?_cons_zero,Option.some.injEq]at hx;subst hx;have:j=sl.length:=by omega
   subst this;refine⟨?_,hj,?_,hhc⟩
   ·rw[Array.getElem?_push,if_pos (by simp;omega)];rfl
   ·rw[jbZ];exact kaw _ _
 ·rw[I.proms];simp[List.filterMap_append,List.filterMap_cons,WSt.prom?]
 ·rcases hc' with⟨_,_,h⟩|⟨h,rfl⟩
  ·exact⟨0,h⟩
  ·exact(I.chan h).1
 ·rw[hsz];refine jho (fun op hop=>Nat.lt_succ_of_lt (I.gnum op hop)) fun op hop=>?_;simp at hop;rcases hop with rfl|rfl
  ·show 0<gs.size+1;omega
  ·show gs.size<gs.size+1;omega
 ·refine I.trace.spawn (kp:=cur kp0 w0 W) rfl (n:=gs.size) (by omega) ?_ (fun op hop e=>by have:=I.gnum op hop;omega) hlt fun k=>?_
  ·rw[hn];simp[permOf]
  ·cases k with
   |zero=>simp only[permOf,true_or,if_true,jbZ]
   | succ j =>
    by_cases e:j=sl.length
    ·subst e;rw[if_pos (.inr hn.symm)];simp[permOf,WSt.perm,jbZ]
    ·rw[if_neg (by omega)];simp only[permOf];rcases Nat.lt_or_ge j sl.length with hl|hl
     ·rw[List.getElem?_append_left hl]
     ·rw[List.getElem?_append_right hl,List.getElem?_eq_none hl];rw[List.getElem?_eq_none (by simp;omega)]
end
end Go.Ae
namespace Go.Ae
variable {C : Ctx} {h h' h0 : Heap} {v : AV} {w : World} {env : Env} {kp : Keep} {m sz c u g : Nat} {d a : Int} {cs vs args : List AV} {nid : Option Nat} {ts : List Int} {P : Program}
open Go.Conc
def Ends(P:Program)(Fin:Value->World->Prop)(m:Machine)(t:Trace):Prop:=
 ∃N last o w' t',runNT P (N+1) m t=(.ended o w',t')/\runN P N m=.next last/\step P last=.ended o w'/\Conc.Good P Fin last o w' t'
theorem kaX{Fin:Value->World->Prop}{m m':Machine}{t:Trace}{ops:Array MemOp}(h:stepT P m=(.next m',ops))(k:Ends P Fin m' (t++ops)):Ends P Fin m t:=by
 obtain⟨N,last,o,w',t',h1,h2,h3,h4⟩:=k;exact⟨N+1,last,o,w',t',by rw[runNT_succ_next h];exact h1,by rw[runN_succ_next h];exact h2,h3,h4⟩
section
variable {P : Program} {Fin : Value -> World -> Prop} {c : Nat} {ps : List Prom} {kp0 : Keep} {g0 : Goroutine} {w0 : World} {pk : Option Value} {sl : List WSt} {gs : Array Goroutine} {W : World} {t : Trace}
def Meets(P:Program)(Fin:Value->World->Prop)(c:Nat)(ps:List Prom)(kp0:Keep)(g0:Goroutine)(w0:World):Prop:=
 ∀A Φ B v T kp1 w1 s r,ps=A++Φ::B->Rely kp0 w0 kp1 w1->Φ v w1 T->(∀r,T r->r<w1.heap.size/\kp1.hide r/\r≠c)->
  ∀sl gs slc t,CInv P c (A++B) (kp1.take T (A++B=[])) (Conc.served g0 v) (w1.setChan c 0 #[] false s r false) none sl gs (w1.setChan c 0 #[] false s r false) t->Ends P Fin (crowd gs (w1.setChan c 0 #[] false s r false) slc) t
theorem jh9{i k:Nat}{y:Goroutine}(h:(gs.setIfInBounds i ph)[k]? =some y):y=ph\/(k≠i/\gs[k]? =some y):=by
 rcases getElem?_stand gs i k y h with⟨_,e⟩|h
 ·exact .inl e
 ·exact .inr h
theorem CInv.noRecv(I:CInv P c ps kp0 g0 w0 none sl gs W t)(i:Nat):partners (gs.setIfInBounds i ph) c false=[]:=by
 refine partners_nil fun k y hy=>?_;rcases jh9 hy with rfl|⟨_,hy⟩
 ·exact offersAt_ph _ _
 ·rcases I.get hy with⟨_,e⟩|⟨j,x,_,_,e,hx⟩
  ·rw[e];exact offersAt_of_not_blocked (by simp[rec0,I.run0]) _ _
  ·rw[e];cases x with
   |busy=>exact offersAt_of_not_blocked (by simp[WSt.gor,hx.1.running]) _ _
   |gone n g=>exact offersAt_of_not_blocked (by show g.status≠.blocked;rcases QuitsIn.status hx with h|h<;>rw[h]<;>simp) _ _
   |wait=>exact offersAt_parked_send' _ _ _ _ _ _
theorem jqg{gs:Array Goroutine}{i j:Nat}{x y:Goroutine}{k:Nat}{z:Goroutine}(hz:gs[k]? =some z)(hi:k≠i)(hj:k≠j):((gs.setIfInBounds j y).setIfInBounds i x)[k]? =some z:=by
 rw[Array.getElem?_setIfInBounds_ne (Ne.symm hi),Array.getElem?_setIfInBounds_ne (Ne.symm hj)];exact hz
theorem CInv.worker(I:CInv P c ps kp0 g0 w0 pk sl gs W t){i:Nat}{g:Goroutine}(hi:gs[i]? =some g)(hrun:g.status=.running)(hi0:i≠0)(slc:Option (Nat×Nat))
  (ih:∀sl' gs' W' slc' t',LLt P sl' sl->CInv P c ps kp0 g0 w0 pk sl' gs' W' t'->Ends P Fin (crowd gs' W' slc') t') (hm:pk≠none->Meets P Fin c ps kp0 g0 w0):
  ∃m' ops,runT P (crowd gs W slc) i=(.next m',ops)/\Ends P Fin m' (t++ops):=by
 rcases I.get hi with⟨h,_⟩|⟨j,x,rfl,hx,rfl,hok⟩
 ·exact absurd h hi0
 obtain⟨A,B,rfl,rfl⟩:∃A B,sl=A++x::B/\j=A.length:=by
  have hlt:=(List.getElem?_eq_some_iff.1 hx).1;refine⟨sl.take j,sl.drop (j+1),?_,by simp;omega⟩;have:x=sl[j]:=((List.getElem?_eq_some_iff.1 hx).2).symm;rw[this];simp
 have hi1:(A.length+1==0)=false:=by simp
 cases x with
 |wait=>simp[WSt.gor,parked]at hrun
 | gone n g =>
  cases n with
  |zero=>have h:g.status=.finished:=hok;have h2:g.status=.running:=hrun;rw[h]at h2;cases h2
  |succ n=>
   rcases hok with h|⟨_,g',hst,hq⟩
   ·have h2:g.status=.running:=hrun;rw[h]at h2;cases h2
   ·refine⟨_,_,runT_crowd_go (P:=P) (i:=A.length+1) hi (by rw[hi1];exact hst W),?_⟩;exact ih _ _ _ _ _ ⟨A,_,_,B,rfl,rfl,.slip (Nat.lt_succ_self n)⟩ (I.slip hq _ _ _ _)
 | busy Φ kp g w =>
  obtain⟨hjw,hrel,hkc⟩:=hok;have hps:ps≠[]:=by rw[I.proms];exact jdk (x:=.busy Φ kp g w) (by simp) rfl
  obtain⟨⟨s,hs⟩,_⟩:=I.chan hps;cases hjw with
  |step hstep hnext=>
   obtain⟨_,g',w',es,hst,hr',K,hes⟩:=hstep _ _ hrel;refine⟨_,_,runT_crowd_go (P:=P) (i:=A.length+1) hi (by rw[hi1];exact hst),?_⟩;exact ih _ _ _ _ _ ⟨A,_,_,B,rfl,rfl,.own hrel hst⟩ (I.ownJ (hnext _ _ _ _ _ hrel hst) K hes _ _ _ _)
  | send v z T n hrn hst hΦ hT hq =>
   have hs1:stepG P (A.length+1==0) g W=.comm g #[scase c v z] true .send W #[]:=by rw[hi1];exact hst _ _ hrel
   cases pk with
   | none =>
    refine⟨_,_,crowd_waits hi hs1 (fun cc hcc=>?_),?_⟩
    ·simp only[List.mem_toArray,List.mem_singleton]at hcc;subst hcc;exact ways_send_none hs (Nat.zero_le _) (I.noRecv _)
    ·have e0:∀fn pos,t++MemOp.ofEvents (A.length+1) fn pos #[]=t:=fun fn pos=>by simp[MemOp.ofEvents]
     rw[e0];exact ih _ _ _ _ _ ⟨A,_,_,B,rfl,rfl,.wait⟩ (I.park hΦ hT hq)
   | some z0 =>
    have h0:gs[0]? =some (parked g0 #[rcase c z0] (.recv false)):=I.zero;have hp:partners (gs.setIfInBounds (A.length+1) ph) c false=[(0,0)]:=by
     have:=partners_one (gs:=gs.setIfInBounds (A.length+1) ph) (r:=c) (send:=false) (j:=0) (g:=parked g0 #[rcase c z0] (.recv false)) (by rw[Array.getElem?_setIfInBounds_ne (by omega)];exact h0) (by
      intro k y hk hy;rcases jh9 hy with rfl|⟨_,hy⟩
      ·exact offersAt_ph _ _
      ·rcases I.get hy with⟨e,_⟩|⟨j,x,_,_,e,hx⟩
       ·exact absurd e hk
       ·rw[e];cases x with
        |busy=>exact offersAt_of_not_blocked (by simp[WSt.gor,hx.1.running]) _ _
        |gone n g=>exact offersAt_of_not_blocked (by show g.status≠.blocked;rcases QuitsIn.status hx with h|h<;>rw[h]<;>simp) _ _
        |wait=>exact offersAt_parked_send' _ _ _ _ _ _)
     rw[this,offersAt_parked_recv];simp
    have hsm:=crowd_send_meets (P:=P) (sl:=slc) hi hs1 hs (j:=0) (by omega) h0 hp;have e1:g0.finishComm P #[rcase c z0] (.recv false) 0 v true=Conc.served g0 v:=by rw[finishComm_recv];rfl
    have e2:g.finishComm P #[scase c v z] .send 0 undef false=Conc.served g undef:=finishComm_send ..;rw[e1,e2]at hsm;refine⟨_,_,hsm,?_⟩;have hl0:=(Array.getElem?_eq_some_iff.1 h0).1;have hlj:=(Array.getElem?_eq_some_iff.1 hi).1;obtain⟨PA,PB,e,q1,q2,q3⟩:=I.meet (x:=.busy Φ kp g w) (.inl rfl) hΦ hT hq hrel hkc (.inr trivial) W.drawn hs g0.frame.fn g.frame.fn g0.frame.place g.frame.place (gs':=(gs.setIfInBounds 0 (Conc.served g0 v)).setIfInBounds (A.length+1) (Conc.served g undef))
     (fun k y hy h1 h2=>jqg hy h2 h1) (by rw[Array.getElem?_setIfInBounds_ne (by omega),Array.getElem?_setIfInBounds_self_of_lt hl0]) (by rw[Array.getElem?_setIfInBounds_self_of_lt (by simpa using hlj)]) (by simp)
    have eat:W.at W.drawn=W:=rfl;rw[eat]at q1 q2 q3;have:=hm (by simp) PA Φ PB v T (cur kp0 w0 W) W (s+1) (s+1) e I.rely0 q1 q2 _ _ slc _ q3;simpa[MemOp.ofEvents]using this
theorem CInv.recv0(I:CInv P c ps kp0 g0 w0 none sl gs W t)(hps:ps≠[]){z:Value}(hst:stepG P true g0 W=.comm g0 #[rcase c z] true (.recv false) W #[])(slc:Option (Nat×Nat))(hm:Meets P Fin c ps kp0 g0 w0)
  (hpark:∀gs' slc' t',CInv P c ps kp0 g0 w0 (some z) sl gs' W t'->Ends P Fin (crowd gs' W slc') t'):
  ∃m' ops,runT P (crowd gs W slc) 0=(.next m',ops)/\Ends P Fin m' (t++ops):=by
 obtain⟨⟨s,hs⟩,_⟩:=I.chan hps;have h0:gs[0]? =some g0:=I.zero;have hs1:stepG P (0==0) g0 W=.comm g0 #[rcase c z] true (.recv false) W #[]:=hst;have hl0:=(Array.getElem?_eq_some_iff.1 h0).1;have key:∀(j k:Nat),(j,k)∈partners (gs.setIfInBounds 0 ph) c true->k=0/\j≠0/\∃A B Φ kp g w v z T n,sl=A++ .wait Φ kp g w v z T n::B/\j=A.length+1/\gs[j]? =some (parked g #[scase c v z] .send):=by
  intro j k hjk;obtain⟨y,hy,hk⟩:=mem_partners.1 hjk;rcases jh9 hy with rfl|⟨hj0,hy⟩
  ·rw[offersAt_ph]at hk;cases hk
  ·rcases I.get hy with⟨e,_⟩|⟨j,x,rfl,hx,e,hok⟩
   ·exact absurd e hj0
   ·rw[e]at hk;cases x with
    |busy=>rw[offersAt_of_not_blocked (by simp[WSt.gor,hok.1.running])]at hk;cases hk
    |gone n g=>rw[offersAt_of_not_blocked (by show g.status≠.blocked;rcases QuitsIn.status hok with h|h<;>rw[h]<;>simp)]at hk;cases hk
    |wait Φ kp g w v z' T n=>
     have hk':k∈offersAt (parked g #[scase c v z'] .send) c true:=hk;rw[offersAt_parked_send,if_pos rfl]at hk';have hlt:=(List.getElem?_eq_some_iff.1 hx).1;refine⟨by simpa using hk',hj0,sl.take j,sl.drop (j+1),Φ,kp,g,w,v,z',T,n,?_,by simp;omega,by rw[hy,e];rfl⟩;have:WSt.wait Φ kp g w v z' T n=sl[j]:=((List.getElem?_eq_some_iff.1 hx).2).symm;rw[this];simp
 cases hp:partners (gs.setIfInBounds 0 ph) c true with
 | nil =>
  refine⟨_,_,crowd_waits h0 hs1 (fun cc hcc=>?_),?_⟩
  ·simp only[List.mem_toArray,List.mem_singleton]at hcc;subst hcc;exact ways_recv_none hs hp
  ·have e0:∀fn pos,t++MemOp.ofEvents 0 fn pos #[]=t:=fun fn pos=>by simp[MemOp.ofEvents]
   rw[e0];refine hpark _ _ _ (I.park0 z hps fun x hx Φ kp g w v z' T n e=>?_);subst e;obtain⟨j,hj⟩:=List.getElem?_of_mem hx;have hg:=(I.slot j _ hj).1;have:(j+1,0)∈partners (gs.setIfInBounds 0 ph) c true:=mem_partners.2 ⟨_,by rw[Array.getElem?_setIfInBounds_ne (by omega)];exact hg,by
    show(0:Nat)∈offersAt (parked g #[scase c v z'] .send) c true;rw[offersAt_parked_send,if_pos rfl];simp⟩
   rw[hp]at this;cases this
 | cons p pp =>
  obtain⟨j,gj,vj,zj,shj,d,hj0,hgj,hr⟩:=crowd_recv_meets_some (P:=P) (sl:=slc) h0 hs1 hs (by rw[hp];simp) (fun j k hjk=>by
   obtain⟨a,b,A,B,Φ,kp,g,w,v,z',T,n,_,_,hh⟩:=key j k hjk;exact⟨a,b,g,v,z',.send,hh⟩)
  -- which slot
  rcases I.get hgj with⟨e,_⟩|⟨m,x,rfl,hx,e,hok⟩
  ·exact absurd e hj0
  have hblk:(x.gor c).status=.blocked:=by rw[<-e];rfl
  cases x with
  |busy=>simp[WSt.gor,hok.1.running]at hblk
  |gone n g=>rcases QuitsIn.status hok with h|h<;> ·have h2:g.status=.blocked:=hblk;rw[h]at h2;cases h2
  | wait Φ kp g w v z' T n =>
   obtain⟨A,B,rfl,rfl⟩:∃A B,sl=A++ .wait Φ kp g w v z' T n::B/\m=A.length:=by
    have hlt:=(List.getElem?_eq_some_iff.1 hx).1;refine⟨sl.take m,sl.drop (m+1),?_,by simp;omega⟩;have:WSt.wait Φ kp g w v z' T n=sl[m]:=((List.getElem?_eq_some_iff.1 hx).2).symm;rw[this];simp
   have e':parked gj #[scase c vj zj] shj=parked g #[scase c v z'] .send:=e;have hoff:=congrArg Goroutine.offers e';simp only[parked,scase,Option.some.injEq,Prod.mk.injEq]at hoff;obtain⟨hcs,rfl⟩:=hoff;have hv:vj=v:=by
    have:=congrArg (fun a:Array CommCase=>a[0]?) hcs;simp at this;exact this.1
   have hz:zj=z':=by
    have:=congrArg (fun a:Array CommCase=>a[0]?) hcs;simp at this;exact this.2
   subst hv hz;have e1:gj.finishComm P #[scase c vj zj] .send 0 undef false=Conc.served g undef:=by
    rw[finishComm_send];have hf:=congrArg Goroutine.frame e';have hc:=congrArg Goroutine.callers e';have hd:=congrArg Goroutine.dying e';simp only[parked]at hf hc hd;simp only[Conc.served];cases g;cases gj;simp only at hf hc hd|-;subst hf hc hd;rfl
   have e2:g0.finishComm P #[rcase c z] (.recv false) 0 vj true=Conc.served g0 vj:=by rw[finishComm_recv];rfl
   rw[e1,e2]at hr;refine⟨_,_,hr,?_⟩;obtain⟨hrel,hkc,hΦ,hT,hq⟩:=hok;have hlj:=(Array.getElem?_eq_some_iff.1 hgj).1;obtain⟨PA,PB,ee,q1,q2,q3⟩:=I.meet (.inr ⟨zj,rfl⟩) hΦ hT hq hrel hkc (.inr trivial) d hs g0.frame.fn gj.frame.fn g0.frame.place gj.frame.place (gs':=(gs.setIfInBounds (A.length+1) (Conc.served g undef)).setIfInBounds 0 (Conc.served g0 vj))
    (fun k y hy h1 h2=>jqg hy h1 h2) (by rw[Array.getElem?_setIfInBounds_self_of_lt (by simpa using hl0)]) (by rw[Array.getElem?_setIfInBounds_ne (by omega),Array.getElem?_setIfInBounds_self_of_lt hlj]) (by simp)
   have:=hm PA Φ PB vj T (cur kp0 w0 W) (W.at d) (s+1) (s+1) ee (I.rely0.at d) q1 q2 _ _ slc _ q3;simpa[MemOp.ofEvents]using this
theorem juu(h:JM P Fin c ps kp0 g0 w0):∀(sl:List WSt) (gs:Array Goroutine) (W:World) (slc:Option (Nat×Nat)) (t:Trace),CInv P c ps kp0 g0 w0 none sl gs W t->Ends P Fin (crowd gs W slc) t:=by
 have body:∀{c:Nat} {ps:List Prom} {kp0:Keep} {g0:Goroutine} {w0:World} {pk:Option Value},(pk≠none->Meets P Fin c ps kp0 g0 w0)->
   (∀(sl:List WSt) (gs:Array Goroutine) (W W0:World) (slc slc0:Option (Nat×Nat)) (t:Trace),pk=none->CInv P c ps kp0 g0 w0 pk sl gs W t->stepT P (crowd gs W0 slc0)=runT P (crowd gs W slc) 0->Ends P Fin (crowd gs W0 slc0) t)->
   ∀(sl:List WSt) (gs:Array Goroutine) (W:World) (slc:Option (Nat×Nat)) (t:Trace),CInv P c ps kp0 g0 w0 pk sl gs W t->Ends P Fin (crowd gs W slc) t:=by
  intro c ps kp0 g0 w0 pk hm hmain sl;by_cases hacc:_root_.Acc (LLt P) sl
  ·induction hacc with
   | intro sl _ ih =>
    intro gs W slc t I;have hsome:∃(i:Nat) (g:Goroutine),gs[i]? =some g/\g.status=.running:=by
     cases hpk:pk with
     |none=>exact⟨0,g0,by have:=I.zero;rw[hpk]at this;exact this,I.run0⟩
     |some z=>
      obtain⟨hne,hno⟩:=I.pkps (by rw[hpk];simp);rw[I.proms]at hne;obtain⟨Φ,hΦ⟩:=List.exists_mem_of_ne_nil _ hne;obtain⟨x,hx,hxp⟩:=List.mem_filterMap.1 hΦ;obtain⟨j,hj⟩:=List.getElem?_of_mem hx;have:=I.slot j x hj;cases x with
      |busy=>exact⟨j+1,_,this.1,this.2.1.running⟩
      |wait=>exact absurd rfl (hno _ hx _ _ _ _ _ _ _ _)
      |gone=>cases hxp
    obtain⟨i,g,d,sl',hi,hg,hst⟩:=crowd_pick (P:=P) (w:=W) (sl:=slc) I.awake hsome;rcases Nat.eq_zero_or_pos i with rfl|hpos
    ·cases hpk:pk with
     |none=>
      subst hpk;exact hmain sl gs (W.at d) W sl' slc t rfl (I.at d) hst
     |some z=>
      have:=I.zero;rw[hi,hpk]at this;cases this;simp[rec0,parked]at hg
    ·obtain⟨m',ops,h1,h2⟩:=(I.at d).worker hi hg (by omega) sl' (fun sl' gs' W' slc' t' hlt I'=>ih sl' hlt gs' W' slc' t' I') hm;exact kaX (hst.trans h1) h2
  ·intro gs W slc t I;exact absurd (jnE sl fun x hx=>by
    obtain⟨j,hj⟩:=List.getElem?_of_mem hx;exact kbQ (I.slot j x hj).2) hacc
 induction h with
 |@step c ps kp0 g0 w0 hstep hnext ih=>
  refine body (fun h=>absurd rfl h) fun sl gs W W0 slc slc0 t _ I hst=>?_;obtain⟨_,g',w',es,hs,hr',K,hes⟩:=hstep _ _ I.rely0;have hz:gs[0]? =some g0:=I.zero;have hr:=runT_crowd_go (P:=P) (sl:=slc) (i:=0) hz (show stepG P (0==0) g0 W=_ from hs);exact kaX (hst.trans hr) (ih _ _ _ _ _ I.rely0 hs _ _ _ _ _ (I.own0 hr' K hes _ _ _ _))
 | @spawn c ps kp0 g0 w0 c' Φ hrun hc' hst' hJ hM ih =>
  refine body (fun h=>absurd rfl h) fun sl gs W W0 slc slc0 t _ I hst=>?_;obtain⟨g',ch,hs,hr',hch⟩:=hst' _ _ I.rely0;have hz:gs[0]? =some g0:=I.zero;have hr:=runT_crowd_spawn (P:=P) (sl:=slc) (i:=0) hz (show stepG P (0==0) g0 W=_ from hs);refine kaX (hst.trans hr) ?_;have hc2:(ps=[]/\¬(cur kp0 w0 W).no c'/\W.heap[c']? =some (.chan 0 #[] false 0 0 false))\/(ps≠[]/\c'=c):=by
   rcases hc' with⟨e,hn,_,hh⟩|h
   ·have hlt:=(Array.getElem?_eq_some_iff.1 hh).1;have hnh:¬kp0.hide c':=fun x=>by
     have:=I.sub0.1 c' (.inl x);rcases this with y|⟨y,_⟩
     ·exact hn y
     ·omega
    refine .inl ⟨e,?_,by rw[I.rely0.row c' hlt hnh];exact hh⟩;rintro(y|⟨y,_⟩)
    ·exact hn y
    ·omega
   ·exact .inr h
  have:=ih _ _ _ _ I.rely0 hs _ _ W slc _ (I.spawn hc2 hr' (hJ _ _ _ _ I.rely0 hs) g0.frame.fn ch.frame.fn g0.frame.place g0.frame.place);simpa[MemOp.ofEvents]using this
 |@recv c ps kp0 g0 w0 z hrun hps hst' hM ih=>
  have hm:Meets P Fin c ps kp0 g0 w0:=fun A Φ B v T kp1 w1 s r e hr hΦ hT sl gs slc t I=>ih A Φ B v T kp1 w1 s r e hr hΦ hT sl gs _ slc t I;have parkedRun:=body (c:=c) (ps:=ps) (kp0:=kp0) (g0:=g0) (w0:=w0) (pk:=some z) (fun _=>hm) (fun _ _ _ _ _ _ _ h=>by cases h);refine body (fun h=>absurd rfl h) fun sl gs W W0 slc slc0 t _ I hst=>?_;obtain⟨m',ops,h1,h2⟩:=I.recv0 hps (hst' _ _ I.rely0) slc hm fun gs' slc' t' I'=>parkedRun _ _ _ _ _ I';exact kaX (hst.trans h1) h2
 | @done c kp0 g0 w0 hd =>
  refine body (fun h=>absurd rfl h) fun sl gs W W0 slc slc0 t _ I hst=>?_;obtain⟨_,v,es,hs,hes,hF⟩:=hd _ _ I.rely0;have hz:gs[0]? =some g0:=I.zero;have hr:=runT_many_ended (P:=P) (sl:=slc) (i:=0) hz (show stepG P (0==0) g0 W=_ from hs);have hgone:∀x∈sl,∃n g,x=.gone n g:=by
   intro x hx;cases x with
   |gone n g=>exact⟨n,g,rfl⟩
   |busy Φ kp g w=>exact absurd I.proms.symm (jdk hx (Φ:=Φ) rfl)
   |wait Φ kp g w v z T n=>exact absurd I.proms.symm (jdk hx (Φ:=Φ) rfl)
  have T1:TInv (t++MemOp.ofEvents 0 g0.frame.fn g0.frame.place es) W.heap.size (permOf kp0 w0 W sl):=by
   refine I.trace.own (g:=0) (kp:=cur kp0 w0 W) rfl (Nat.le_refl _) hes fun g'=>?_;cases g' with
   |zero=>simp[permOf]
   |succ j=>
    rw[if_neg (by omega)];cases hx:permOf kp0 w0 W sl (j+1)<;>simp[kaB]
  refine⟨0,crowd gs W0 slc0,_,_,_,by simp only[runNT,hst,hr],rfl,by simp[step,hst,hr],v,rfl,hF,T1.clean,T1.over ?_,⟨fun x hx=>?_,rfl⟩,fun i x hx hi=>?_⟩
  ·intro g hg;cases g with
   |zero=>exact absurd rfl hg
   | succ j =>
    simp only[permOf];cases hx:sl[j]? with
    |none=>rfl
    |some x=>
     obtain⟨n,g,rfl⟩:=hgone x (List.mem_of_getElem? hx);rfl
  ·obtain⟨j,hj⟩:=List.mem_iff_getElem?.1 hx;rw[List.getElem?_drop]at hj;have hj':gs[1+j]? =some x:=by simpa[crowd]using hj
   rcases I.get hj' with⟨e,_⟩|⟨m,y,_,hy,e,hok⟩
   ·omega
   ·obtain⟨n,g,rfl⟩:=hgone y (List.mem_of_getElem? hy);rw[e];exact⟨n,QuitsIn.leaves hok⟩
  ·have hx':gs[i]? =some x:=hx;rcases I.get hx' with⟨e,_⟩|⟨m,y,_,hy,e,hok⟩
   ·exact absurd e hi
   ·obtain⟨n,g,rfl⟩:=hgone y (List.mem_of_getElem? hy);rw[e];refine⟨n,?_⟩;rw[T1.words.deaf];exact QuitsD.hears _ (QuitsD.of_quitsIn hok)
theorem jqh(h:JM P Fin c [] ⟨fun _=>False,fun _=>False⟩ g0 w0):Ends P Fin (crowd #[g0] w0 none) #[]:=by
 refine juu h [] #[g0] w0 none #[] ⟨rfl,rfl,h.running,?_,fun j x hx=>(by cases hx),rfl,fun h=>absurd rfl h,fun h=>absurd rfl h,by simp,?_⟩
 ·rw[jbZ];exact kaw _ _
 ·have hn:∀i a,touchAt (#[]:Trace) i=some a->False:=fun i a h=>by simp[touchAt,Trace.act?]at h
  refine⟨fun said=>?_,fun g=>rfl,fun op hop=>by simp at hop,fun i a h=>(hn i a h).elim,fun g kp _ i a h=>(hn i a h).elim,fun i a op h=>(hn i a h).elim,fun g kp hg=>?_,fun g g' k k' hne hg hg'=>?_⟩
  ·rintro⟨i,j,_,⟨a,b,ha,_⟩,_⟩;simp[Trace.act?]at ha
  ·cases g with
   |zero=>
    simp only[permOf,jbZ,Option.some.injEq]at hg;subst hg;exact⟨fun r hr=>hr.elim,fun r hr=>hr.elim⟩
   |succ j=>simp[permOf]at hg
  ·cases g with
   |zero=>
    cases g' with
    |zero=>exact absurd rfl hne
    |succ j=>simp[permOf]at hg'
   |succ j=>simp[permOf]at hg
end
end Go.Ae
namespace Go.Ae
variable {C : Ctx} {h h' h0 : Heap} {v : AV} {w : World} {env : Env} {kp : Keep} {m sz c u g : Nat} {d a : Int} {cs vs args : List AV} {nid : Option Nat} {ts : List Int} {P : Program}
open Go.Conc
def Keep.both(kp:Keep):Keep:=⟨kp.hide,kp.hide⟩
section
variable {P : Program} {kp kp1 kq : Keep} {w w1 w' : World}
theorem kbb:kas.both=kas:=rfl
theorem Rely.toBoth(h:Rely kp w kp1 w1):Rely kp.both w kp1.both w1:=⟨h.size,h.os,h.tape,h.output,h.row,by rw[h.eq];rfl⟩
theorem Rely.ofBoth(h:Rely kp.both w kq w1):Rely kp w (kp.wider w.heap.size w1.heap.size) w1/\kq=(kp.wider w.heap.size w1.heap.size).both:=⟨⟨h.size,h.os,h.tape,h.output,h.row,rfl⟩,h.eq⟩
theorem EvIn.toBoth{B:Nat}{e:Event}(h:EvIn kp B e):EvIn kp.both B e:=h.imp (fun⟨a,b,c,d,_⟩=>⟨a,b,c,d,fun _=>d⟩) id
theorem KeepW.toBoth(h:KeepW kp w w'):KeepW kp.both w w':=⟨h.os,h.tape,h.output,h.size,fun r hr=>h.block r (.inr (hr.elim id id))⟩
theorem jjc.toBoth{main:Bool}{g:Goroutine}(h:jjc P main kp g w):jjc P main kp.both g w:=by
 obtain⟨a,g',w',es,b,c,d,e⟩:=h;exact⟨a,g',w',es,b,c,d.toBoth,fun x hx=>(e x hx).toBoth⟩
end
section
variable {P : Program} {Fin : Value -> World -> Prop} {p : Prop} {c : Nat} {ps : List Prom} {Φ : Prom}
theorem JM.idx{g:Goroutine}(h:JM P Fin c ps kp g w)(c':Nat)(hps:ps=[]):JM P Fin c' ps kp g w:=by
 induction h with
 |step a b ih=>exact .step a fun kp1 w1 g' w' es r hs=>ih _ _ _ _ _ r hs hps
 |spawn c2 Φ hrun hc hs hJ hM=>
  refine .spawn c2 Φ hrun ?_ hs hJ hM;rcases hc with h|⟨h,_⟩
  ·exact .inl h
  ·exact absurd hps h
 |recv z hrun hne=>exact absurd hps hne
 |done h=>exact .done h
def MJ0(P:Program)(Fin:Value->World->Prop)(p:Prop):Keep->Goroutine->World->Prop:=fun kp g w=>JM P Fin 0 [] kp.both g w\/p
def MJ(P:Program)(Fin:Value->World->Prop)(p:Prop)(c:Nat)(ps:List Prom):Keep->Goroutine->World->Prop:=fun kp g w=>JM P Fin c ps kp g w\/p
theorem jeR:Closed P true (MJ0 P Fin p):=by
 refine⟨fun{kp g w} hs hn=>?_,fun{kp kp1 g w w1} h r=>?_⟩
 ·by_cases hp:p
  ·exact .inr hp
  refine .inl (.step (fun kq w1 r=>?_) fun kq w1 g' w' es r hst=>?_)
  ·obtain⟨r1,rfl⟩:=r.ofBoth;exact(hs _ _ r1).toBoth
  ·obtain⟨r1,rfl⟩:=r.ofBoth;exact(hn _ _ _ _ _ r1 hst).resolve_right hp
 ·exact h.imp (fun h=>h.rely r.toBoth) id
theorem jlw:Closed P true (MJ P Fin p c ps):=by
 refine⟨fun{kp g w} hs hn=>?_,fun{kp kp1 g w w1} h r=>h.imp (fun h=>h.rely r) id⟩;by_cases hp:p
 ·exact .inr hp
 exact .inl (.step hs fun kq w1 g' w' es r hst=>(hn _ _ _ _ _ r hst).resolve_right hp)
theorem Ends.fin{m:Machine}{t:Trace}(h:Ends P Fin m t):∃v w,Fin v w:=by
 obtain⟨N,last,o,w',t',_,_,_,hG⟩:=h;obtain⟨v,_,hf,_⟩:=hG;exact⟨v,w',hf⟩
end
abbrev Phase:=Option (Nat×List Prom)
def PJ(P:Program)(Fin:Value->World->Prop)(p:Prop):Phase->Keep->Goroutine->World->Prop
 |none=>MJ0 P Fin p
 |some x=>MJ P Fin p x.1 x.2
theorem jcH{P:Program}{Fin:Value->World->Prop}{p:Prop}:∀ph:Phase,Closed P true (PJ P Fin p ph)
 |none=>jeR
 |some _=>jlw
def Ctx.main0(C:Ctx):Ctx:={C with
 main:=true
 fam:=fun J=>∃Fin p,J=MJ0 C.P Fin p
 closed:=by rintro J ⟨Fin,p,rfl⟩;exact jeR
 ends := fun p => ⟨_, ⟨fun _ _ => p, p, rfl⟩, fun kp g w hp => .inr hp, fun g w h => h.elim (fun h => by
  obtain⟨_,_,hp⟩:=(jqh (by rw[kbb]at h;exact h)).fin;exact hp) id⟩}
def Ctx.pend(C:Ctx)(x:Nat×List Prom):Ctx:={C with
 main:=true
 fam:=fun J=>(∃Fin p,J=MJ C.P Fin p x.1 x.2)\/∃p:Prop,J=fun _ _ _=>p
 closed:=by
  rintro J (⟨Fin,p,rfl⟩|⟨p,rfl⟩)
  ·exact jlw
  ·exact kaG _ _ _
 ends := fun p => ⟨_, .inr ⟨p, rfl⟩, fun _ _ _ hp => hp, fun _ _ hp => hp⟩ }
def Ctx.work(C:Ctx)(c:Nat)(Φ:Prom):Ctx:={C with
 main:=false
 fam:=fun J=>J=JW C.P c Φ\/∃p:Prop,J=fun _ _ _=>p
 closed:=by
  rintro J (rfl|⟨p,rfl⟩)
  ·exact jfF _ _ _
  ·exact kaG _ _ _
 ends := fun p => ⟨_, .inr ⟨p, rfl⟩, fun _ _ _ hp => hp, fun _ _ hp => hp⟩ }
def Ctx.at(C:Ctx):Phase->Ctx
 |none=>C.main0
 |some x=>C.pend x
theorem Ctx.at_fam(C:Ctx)(Fin:Value->World->Prop)(p:Prop):∀ph:Phase,(C.at ph).fam (PJ C.P Fin p ph)
 |none=>⟨Fin,p,rfl⟩
 |some _=>.inl ⟨Fin,p,rfl⟩
end Go.Ae
namespace Go.Ae
variable {C : Ctx} {h h' h0 : Heap} {v : AV} {w : World} {env : Env} {kp : Keep} {m sz c u g : Nat} {d a : Int} {cs vs args : List AV} {nid : Option Nat} {ts : List Int} {P : Program}
open Go.Conc Go.RowKit
theorem ends_of{C:Ctx}{f:FuncId}{g:Nat}(hf:C.lk g=f){args:List AV}{vals:List Value}{env:Env}{h:Heap}{w:World}(hc:ACalls C.main0 g args h (fun r _=>r=.bool true))(R:Rel C ⟨fun r=>r<w.heap.size,fun _=>False⟩ env h w)
  (hb:∀v∈args,v.bel h.ok) (hv:args.map (AV.val C.lk env)=vals) (hi:C.P.inits.idxOf? f=none):
  Ends C.P (fun v w'=>v=.bool true/\Below w.heap.size w w') (crowd #[G (Frame.enter C.P f vals.toArray .normal) []] w none) #[]:=by
 subst hf hv;have hk:kas.or ⟨fun r=>r<w.heap.size,fun _=>False⟩=⟨fun r=>r<w.heap.size,fun _=>False⟩:=ka8 _;have R':Rel C.main0 (kas.or ⟨fun r=>r<w.heap.size,fun _=>False⟩) env h w:=by rw[hk];exact⟨R.1,R.2,R.3,R.4,R.5,R.6,R.7,R.8⟩
 have H:=hc.2 ⟨fun r=>r<w.heap.size,fun _=>False⟩ kas env w R' hb (MJ0 C.P (fun v w'=>v=.bool true/\Below w.heap.size w w') False) ⟨_,_,rfl⟩ [] fun kp' v w' fr hB hl=>by
  obtain⟨env',r,h',rfl,rfl,R1,K,_,_,_⟩:=hB;refine .inl (.done fun kq w1 rq=>?_);obtain⟨rq1,rfl⟩:=rq.ofBoth;obtain⟨fn,hfn,hres⟩:=hl.res;obtain⟨hr1,hr2⟩:=hres _ _ rq1;refine⟨rfl,_,_,jtE hl.mode hl.kind hl.defers (by rw[hl.fn];exact hfn) hr1 (by rw[hl.fn];exact hi),fun e he=>(hr2 e (mem_seen he)).toBoth,rfl,?_⟩;have K2:=K.trans (rq1.keepJ _);exact⟨K2.os,K2.tape,K2.output,K2.size,fun k hk=>K2.block k hk hk fun x=>x.elim⟩
 exact jqh (H.resolve_right id)
end Go.Ae
namespace Go.Ae
variable {C : Ctx} {h h' h0 : Heap} {v : AV} {w : World} {env : Env} {kp : Keep} {m sz c u g : Nat} {d a : Int} {cs vs args : List AV} {nid : Option Nat} {ts : List Int} {P : Program}
def wpPreX:=PLift.up<|zI @wp_seq<|zI @wp_region<|zI @wp_draw<|zI @wp_cond<|zI @wp_block<|zI @wp_skip<|zI @wp_exit<|zI @wp_ret<|zI @wp_range<|zI @thenO_normal<|zI @thenO_exit<|zI @thenO_ret<|zI @blockO_same<|zI @blockO_other<|zI @blockO_normal<|zI @blockO_ret<|zI @wpOps_nil<|zI @wpOps_cons<|zI @wpOps_guard<|zI @wpOp_call<|zI @wpOp_op<|zI @put_some<|zI @put_none<|zI @wpDraw_zero<|zI @wpDraw_some<|zI @retO_marks<|zI @retO_marksN<|zI @beginO_normal<|zI @roundO_normal<|zI @roundO_exit<|zI @roundO_ret<|zI @wpD_nil<|zI @wpD_guard<|zI @wpD_op<|zI @wpD_opM<|@jr7
theorem wpPre: type_of% wpPreX.1:=wpPreX.1
def wpPostX:=PLift.up<|zI @app_known<|zI @appKB_grow<|zI @appKB_room<|zI @app_unk<|zI @appUB_grow<|zI @app_nil<|zI @app_nil0<|zI @appA_some<|zI @atDefd_some<|zI @retO_ret<|zI @retO_normal<|zI @chkP_nil<|zI @chkP_none<|zI @chkP_skip<|zI @chkP_take<|zI @chkS_nil<|zI @chkS_none<|zI @chkS_skip<|zI @chkS_take<|zI @noneIn_nil<|zI @noneIn_none<|zI @noneIn_cons<|zI @ids_ptr<|zI @ids_slice<|zI @ids_nil<|zI @ids_int<|zI @ids_bool<|zI @ids_agg<|zI @rids_known<|zI @rids_unk<|zI @rids_nil<|zI @foot_blind<|zI @wr_blind<|zI @foot_load<|zI @wr_load<|zI @foot_store<|zI @wr_store<|zI @foot_slice<|zI @wr_slice<|zI @foot_append<|zI @wr_append<|zI @foot_alloc<|zI @wr_alloc<|zI @foot_box<|zI @wr_box<|zI @foot_build<|zI @wr_build<|zI @foot_make<|zI @wr_make<|zI @foot_copy<|zI @wr_copy<|zI @false_implies<|zI @true_and<|zI @and_true<|zI @resA_nil<|zI @resA_tmp<|zI @resA_cell<|zI @retA_zero<|zI @retA_one<|zI @retA_two<|zI @retA_three<|zI @retA_four<|zI @ev_tmp<|zI @ev_const<|zI @evs_nil<|zI @evs_cons<|zI @upd_same<|zI @upd_ne<|zI @argT_app<|zI @condV_true<|zI @condV_false<|zI @condV_dec<|zI @condV_var<|zI @Br_not<|zI @Br_pos<|zI @Br_neg<|zI @gV_tt<|zI @gV_tf<|zI @gV_ft<|zI @gV_ff<|zI @gV_dt<|zI @gV_df<|zI @gV_vt<|zI @gV_vf<|zI @Call_func<|zI @Call_clo<|zI @Call_yield<|zI @opt1_some<|zI @opt2_some<|zI @opR_mv<|zI @opR_pick<|zI @opR_build<|zI @opR_load<|zI @opR_nilCheck<|zI @opR_bin<|zI @opR_eqb<|zI @opR_eqn<|zI @opR_eqs<|zI @opR_un<|zI @opR_conv<|zI @opR_mkfunc<|zI @opR_slice<|zI @opR_fieldAddr<|zI @opR_field<|zI @opR_indexAddr<|zI @opR_indexArr<|zI @opR_index<|zI @opR_extract<|zI @opR_len<|zI @opR_cap<|zI @opR_max<|zI @opR_min<|zI @opR_alloc<|zI @opR_box<|zI @opR_buildSlice<|zI @opR_store<|zI @opR_makeSlice<|zI @opR_append<|zI @opR_copy<|zI @bin_add<|zI @bin_sub<|zI @bin_mul<|zI @bin_quo<|zI @bin_rem<|zI @bin_and<|zI @bin_or<|zI @bin_xor<|zI @bin_andNot<|zI @bin_eql<|zI @bin_neq<|zI @bin_lss<|zI @bin_leq<|zI @bin_gtr<|zI @bin_geq<|zI @bin_shl<|zI @bin_shr<|zI @bits_and1<|zI @un_neg<|zI @un_not<|zI @un_xor<|zI @conv_int<|zI @eqb_ff<|zI @eqb_tt<|zI @pick_tt<|zI @pick_ff<|zI @pick_dt<|zI @pick_df<|zI @pick_vt<|zI @pick_vf<|zI @ext_tuple<|zI @max_two<|zI @max_three<|zI @min_two<|zI @min_three<|zI @w_i64<|zI @w_i32<|zI @w_u8<|zI @w_u32<|zI @w_u64<|zI @tdiv_nn<|zI @tmod_nn<|zI @fdiv_nn<|zI @bits_i64<|zI @bits_u64<|zI @bits_u32<|zI @bits_i32<|zI @bits_u8<|zI @min_shift<|zI @get_push_eq<|zI @get_push_lt<|zI @get_put_eq<|zI @get_put_ne<|zI @put_put<|zI @push_put<|zI @push_put_lt<|zI @Heap.size_push<|zI @Heap.size_put<|zI @Heap.size_reserve<|zI @Heap.get_reserve<|zI @load_ptr<|zI @loadB_one<|zI @loadB_agg<|zI @store_ptr<|zI @storeB_int<|zI @storeB_bool<|zI @storeB_slice<|zI @storeB_nil<|zI @storeB_agg<|zI @storeB_var<|zI @splice_one<|zI @splice_two<|zI @cut_nil<|zI @cut_cons<|zI @cut_succ<|zI @fill_nil<|zI @fill_int<|zI @fill_bool<|zI @fill_ptr<|zI @fill_slice<|zI @fill_nilslice<|zI @fill_func<|zI @fill_agg<|zI @fill_one<|zI @storeO_some<|zI @alloc_none<|zI @alloc_some<|zI @kept_none<|zI @buildS_none<|zI @buildS_some<|zI @make_none<|zI @make_some<|zI @idx_slice<|zI @idxArr_ptr<|zI @fieldAddr_ptr<|zI @field_agg<|zI @part_one<|zI @part_agg<|zI @len_slice<|zI @len_nil<|zI @cells_int<|zI @cells_bool<|zI @cells_agg<|zI @cells_slice<|zI @cells_nil<|zI @cells_ptr<|zI @cells_func<|zI @cells_yield<|zI @ints_length<|zI @ints_get<|zI @ints_set<|zI @ints_snoc<|zI @elA_slice<|zI @zeros_one<|zI @atLoop_some<|zI @setParams_nil<|zI @setParams_cons<|zI @Nat.min_eq_left<|zI @Int.toNat_natCast<|zI @Nat.zero_add<|zI @Nat.add_zero<|zI @Nat.mul_one<|zI @Nat.zero_mul<|zI @decide_true<|zI @decide_false<|zI @Bool.not_true<|zI @Bool.not_false<|zI @decide_eq_true_eq<|@AV.int.injEq
theorem jbx: type_of% wpPostX.1:=wpPostX.1
theorem jby:
  (∀{α:Type} {l:List α},l++[]=l)/\
  (∀{α:Type} {a:α} {l m:List α},(a::l)++m=a::(l++m))/\
  (∀{α:Type} {a:α} {l:List α} {i:Nat},(a::l).drop (i+1)=l.drop i)/\
  (∀{α:Type} {l:List α},l.drop 0=l)/\
  (∀{α:Type} {p:α->Prop} {a:α} {l:List α},(∀x∈a::l,p x)=(p a/\∀x∈l,p x))/\
  (∀{α:Type} {a d:α} {l:List α} {i:Nat},(a::l).getD (i+1) d=l.getD i d)/\
  (∀{α:Type} {a d:α} {l:List α},(a::l).getD 0 d=a)/\
  (∀{α:Type} {d:α} {i:Nat},([]:List α).getD i d=d)/\
  (∀{α:Type} {a:α} {l:List α} {i:Nat},(a::l)[i+1]? =l[i]?)/\
  (∀{α:Type} {a:α} {l:List α},(a::l)[0]? =some a)/\
  (∀{α:Type} {a:α} {l:List α},(a::l).length=l.length+1)/\
  (∀{α:Type},([]:List α).length=0)/\
  (∀{α β:Type} {f:α->β} {a:α} {l:List α},(a::l).map f=f a::l.map f)/\
  (∀{α β:Type} {f:α->β},([]:List α).map f=[])/\
  (∀{α:Type} {l:List α},[]++l=l)/\
  (∀{α:Type} {a:α},(a∈([]:List α))=False)/\
  (∀{α:Type} {a b:α} {l:List α} {i:Nat},(a::l).set (i+1) b=a::l.set i b)/\
  (∀{α:Type} {a b:α} {l:List α},(a::l).set 0 b=b::l)/\
  (∀{α:Type} {a:α} {l:List α} {i:Nat},(a::l).take (i+1)=a::l.take i)/\
  (∀{α:Type} {l:List α},l.take 0=[])/\
  (∀{α β:Type} {f:α->β},(none:Option α).map f=none)/\
  (∀{α β:Type} {f:α->β} {a:α},(some a).map f=some (f a))/\
  (∀{α:Type} {a:α},(a=a)=True)/\
  (∀{α:Type} {p:α->Prop} {b:α},(∃a,a=b/\p a)=p b)/\
  (∀{α:Type} {p:α->Prop} {b:α},(∃a,b=a/\p a)=p b)/\
  (∀{α:Type},(α->True)=True)/\
  (∀{α:Prop},(α->True)=True)/\
  (∀{α:Type} {a b:α},(a≠b)=¬a=b):=by
 refine⟨?_,?_,?_,?_,?_,?_,?_,?_,?_,?_,?_,?_,?_,?_,?_,?_,?_,?_,?_,?_,?_,?_,?_,?_,?_,?_,?_,?_⟩<;>intros<;>simp
theorem wpD1:
  (∀{h:Heap} {b:ABlk},(h.push b).size=h.size+1)/\
  (∀{h:Heap} {i:Nat} {b:ABlk},(h.put i b).size=h.size)/\
  (∀{h:Heap} {k:Nat},(h.reserve k).size=h.size+k)/\
  (∀{l:List Int},(ints l).length=l.length)/\
  (∀{x y:Nat},(x∈[y])=(x=y))/\
  (∀{α:Type} {a:α} {l:List α},(a::l).length=l.length+1)/\
  (∀{α:Type},([]:List α).length=0)/\
  (∀{α:Type} {n:Nat} {a:α},(List.replicate n a).length=n)/\
  (∀{α:Type} {l:List α} {i:Nat} {a:α},(l.set i a).length=l.length):=
 ⟨rfl,rfl,rfl,ints_length,by simp,List.length_cons,List.length_nil,List.length_replicate,List.length_set⟩
theorem wpD2:
  (∀{k:IntKind} {n:Int},(AV.int k n).one=true)/\(∀{b:Bool},(AV.bool b).one=true)/\(∀{i o:Nat},(AV.ptr i o).one=true)/\(∀{i o n:Nat} {c:Cap},(AV.slice i o n c).one=true)/\AV.nilslice.one=true/\
  (∀{g:Nat} {f c:List AV},(AV.func g f c).one=true)/\
  (∀{α:Type} {p:α->Bool} {a:α} {l:List α},(a::l).all p=(p a&&l.all p))/\(∀{α:Type} {p:α->Bool},([]:List α).all p=true)/\
  (∀{a b:Bool},((a&&b)=true)=(a=true/\b=true))/\(∀{p:Prop},(p/\p)=p)/\(∀{p:Prop},(True/\p)=p)/\(∀{p:Prop},(p/\True)=p)/\((true=true)=True):=by
 refine⟨?_,?_,?_,?_,?_,?_,?_,?_,?_,?_,?_,?_,?_⟩<;>intros<;>first|rfl|simp
theorem zd{P:Prop}(h:P:=by first|assumption|decide|omega|(simp only[wpD1]<;>omega)|(simp only[wpD2]<;>assumption)|solve_by_elim [zR,zP,zV]|fail):P:=h
theorem zs{P Q:Prop}(h:Q)(e:P=Q:=by simp-implicitDefEqProofs (disch:=first|exact zd|fail) only[↓wpPre,jbx,jby,Int.reduceToNat,Int.reducePow,Int.reduceMul,Int.reduceAdd,Int.reduceSub,Int.reduceNeg,Nat.reduceAdd,Nat.reduceMul,Nat.reducePow,Int.reduceLT,Int.reduceLE,Int.reduceEq,Nat.reduceEqDiff];rfl):P:=e▸h
theorem ze{P:Prop}(h:P:=by simp-implicitDefEqProofs (disch:=first|exact zd|fail) only[↓wpPre,jbx,jby,Int.reduceToNat,Int.reducePow,Int.reduceMul,Int.reduceAdd,Int.reduceSub,Int.reduceNeg,Nat.reduceAdd,Nat.reduceMul,Nat.reducePow,Int.reduceLT,Int.reduceLE,Int.reduceEq,Nat.reduceEqDiff]):P:=h
theorem zs1{P Q A1:Prop}(a:A1)(hh:Q)(ee:A1->P=Q:=by intro ya;simp-implicitDefEqProofs (disch:=first|exact zd|fail) only[↓wpPre,jbx,jby,Int.reduceToNat,Int.reducePow,Int.reduceMul,Int.reduceAdd,Int.reduceSub,Int.reduceNeg,Nat.reduceAdd,Nat.reduceMul,Nat.reducePow,Int.reduceLT,Int.reduceLE,Int.reduceEq,Nat.reduceEqDiff,ya];rfl):P:=ee a▸hh
theorem ze1{P A1:Prop}(a:A1)(ee:A1->P:=by intro ya;simp-implicitDefEqProofs (disch:=first|exact zd|fail) only[↓wpPre,jbx,jby,Int.reduceToNat,Int.reducePow,Int.reduceMul,Int.reduceAdd,Int.reduceSub,Int.reduceNeg,Nat.reduceAdd,Nat.reduceMul,Nat.reducePow,Int.reduceLT,Int.reduceLE,Int.reduceEq,Nat.reduceEqDiff,ya]):P:=ee a
theorem zs2{P Q A1 B1:Prop}(a:A1)(b:B1)(hh:Q)(ee:A1->B1->P=Q:=by intro ya yb;simp-implicitDefEqProofs (disch:=first|exact zd|fail) only[↓wpPre,jbx,jby,Int.reduceToNat,Int.reducePow,Int.reduceMul,Int.reduceAdd,Int.reduceSub,Int.reduceNeg,Nat.reduceAdd,Nat.reduceMul,Nat.reducePow,Int.reduceLT,Int.reduceLE,Int.reduceEq,Nat.reduceEqDiff,ya,yb];rfl):P:=ee a b▸hh
theorem ze2{P A1 B1:Prop}(a:A1)(b:B1)(ee:A1->B1->P:=by intro ya yb;simp-implicitDefEqProofs (disch:=first|exact zd|fail) only[↓wpPre,jbx,jby,Int.reduceToNat,Int.reducePow,Int.reduceMul,Int.reduceAdd,Int.reduceSub,Int.reduceNeg,Nat.reduceAdd,Nat.reduceMul,Nat.reducePow,Int.reduceLT,Int.reduceLE,Int.reduceEq,Nat.reduceEqDiff,ya,yb]):P:=ee a b
theorem zs3{P Q A1 B1 C1:Prop}(a:A1)(b:B1)(c:C1)(hh:Q)(ee:A1->B1->C1->P=Q:=by intro ya yb yc;simp-implicitDefEqProofs (disch:=first|exact zd|fail) only[↓wpPre,jbx,jby,Int.reduceToNat,Int.reducePow,Int.reduceMul,Int.reduceAdd,Int.reduceSub,Int.reduceNeg,Nat.reduceAdd,Nat.reduceMul,Nat.reducePow,Int.reduceLT,Int.reduceLE,Int.reduceEq,Nat.reduceEqDiff,ya,yb,yc];rfl):P:=ee a b c▸hh
theorem ze3{P A1 B1 C1:Prop}(a:A1)(b:B1)(c:C1)(ee:A1->B1->C1->P:=by intro ya yb yc;simp-implicitDefEqProofs (disch:=first|exact zd|fail) only[↓wpPre,jbx,jby,Int.reduceToNat,Int.reducePow,Int.reduceMul,Int.reduceAdd,Int.reduceSub,Int.reduceNeg,Nat.reduceAdd,Nat.reduceMul,Nat.reducePow,Int.reduceLT,Int.reduceLE,Int.reduceEq,Nat.reduceEqDiff,ya,yb,yc]):P:=ee a b c
theorem zs4{P Q A1 B1 C1 D1:Prop}(a:A1)(b:B1)(c:C1)(d:D1)(hh:Q)(ee:A1->B1->C1->D1->P=Q:=by intro ya yb yc yd;simp-implicitDefEqProofs (disch:=first|exact zd|fail) only[↓wpPre,jbx,jby,Int.reduceToNat,Int.reducePow,Int.reduceMul,Int.reduceAdd,Int.reduceSub,Int.reduceNeg,Nat.reduceAdd,Nat.reduceMul,Nat.reducePow,Int.reduceLT,Int.reduceLE,Int.reduceEq,Nat.reduceEqDiff,ya,yb,yc,yd];rfl):P:=ee a b c d▸hh
theorem zs5{P Q A1 B1 C1 D1 E1:Prop}(a:A1)(b:B1)(c:C1)(d:D1)(e:E1)(hh:Q)(ee:A1->B1->C1->D1->E1->P=Q:=by intro ya yb yc yd ye;simp-implicitDefEqProofs (disch:=first|exact zd|fail) only[↓wpPre,jbx,jby,Int.reduceToNat,Int.reducePow,Int.reduceMul,Int.reduceAdd,Int.reduceSub,Int.reduceNeg,Nat.reduceAdd,Nat.reduceMul,Nat.reducePow,Int.reduceLT,Int.reduceLE,Int.reduceEq,Nat.reduceEqDiff,ya,yb,yc,yd,ye];rfl):P:=ee a b c d e▸hh
theorem zs6{P Q A1 B1 C1 D1 E1 F1:Prop}(a:A1)(b:B1)(c:C1)(d:D1)(e:E1)(f:F1)(hh:Q)(ee:A1->B1->C1->D1->E1->F1->P=Q:=by intro ya yb yc yd ye yf;simp-implicitDefEqProofs (disch:=first|exact zd|fail) only[↓wpPre,jbx,jby,Int.reduceToNat,Int.reducePow,Int.reduceMul,Int.reduceAdd,Int.reduceSub,Int.reduceNeg,Nat.reduceAdd,Nat.reduceMul,Nat.reducePow,Int.reduceLT,Int.reduceLE,Int.reduceEq,Nat.reduceEqDiff,ya,yb,yc,yd,ye,yf];rfl):P:=ee a b c d e f▸hh
theorem ze6{P A1 B1 C1 D1 E1 F1:Prop}(a:A1)(b:B1)(c:C1)(d:D1)(e:E1)(f:F1)(ee:A1->B1->C1->D1->E1->F1->P:=by intro ya yb yc yd ye yf;simp-implicitDefEqProofs (disch:=first|exact zd|fail) only[↓wpPre,jbx,jby,Int.reduceToNat,Int.reducePow,Int.reduceMul,Int.reduceAdd,Int.reduceSub,Int.reduceNeg,Nat.reduceAdd,Nat.reduceMul,Nat.reducePow,Int.reduceLT,Int.reduceLE,Int.reduceEq,Nat.reduceEqDiff,ya,yb,yc,yd,ye,yf]):P:=ee a b c d e f
theorem zs7{P Q A1 B1 C1 D1 E1 F1 G1:Prop}(a:A1)(b:B1)(c:C1)(d:D1)(e:E1)(f:F1)(g:G1)(hh:Q)(ee:A1->B1->C1->D1->E1->F1->G1->P=Q:=by intro ya yb yc yd ye yf yg;simp-implicitDefEqProofs (disch:=first|exact zd|fail) only[↓wpPre,jbx,jby,Int.reduceToNat,Int.reducePow,Int.reduceMul,Int.reduceAdd,Int.reduceSub,Int.reduceNeg,Nat.reduceAdd,Nat.reduceMul,Nat.reducePow,Int.reduceLT,Int.reduceLE,Int.reduceEq,Nat.reduceEqDiff,ya,yb,yc,yd,ye,yf,yg];rfl):P:=ee a b c d e f g▸hh
theorem ze7{P A1 B1 C1 D1 E1 F1 G1:Prop}(a:A1)(b:B1)(c:C1)(d:D1)(e:E1)(f:F1)(g:G1)(ee:A1->B1->C1->D1->E1->F1->G1->P:=by intro ya yb yc yd ye yf yg;simp-implicitDefEqProofs (disch:=first|exact zd|fail) only[↓wpPre,jbx,jby,Int.reduceToNat,Int.reducePow,Int.reduceMul,Int.reduceAdd,Int.reduceSub,Int.reduceNeg,Nat.reduceAdd,Nat.reduceMul,Nat.reducePow,Int.reduceLT,Int.reduceLE,Int.reduceEq,Nat.reduceEqDiff,ya,yb,yc,yd,ye,yf,yg]):P:=ee a b c d e f g
theorem zh{h1 h2 h3:Heap}(x:HSub h1 h2)(e:HSub h1 h2->HSub h h3:=by intro zx;repeat(first|exact zx|refine HSub.put ?_ (by(try simp only[Heap.size_put,Heap.size_push,Heap.size_reserve]);omega) _|refine HSub.push ?_ _|refine HSub.reserve ?_ _)):HSub h h3:=e x
theorem zr{h3:Heap}(e:HSub h h->HSub h h3:=by intro zx;repeat(first|exact zx|refine HSub.put ?_ (by(try simp only[Heap.size_put,Heap.size_push,Heap.size_reserve]);omega) _|refine HSub.push ?_ _|refine HSub.reserve ?_ _)):HSub h h3:=e (kag h)
abbrev pP:Int:=998244353
theorem jjr(a b m:Int):a% m*b% m=a*b% m:=by rw[Int.mul_emod,Int.emod_emod,<-Int.mul_emod]
theorem jjs(a b m:Int):a*(b% m)% m=a*b% m:=by rw[Int.mul_emod,Int.emod_emod,<-Int.mul_emod]
theorem jhp(a:Int)(n:Nat)(m:Int):(a% m)^n% m=a^n% m:=by
 induction n with
 |zero=>simp
 |succ n ih=>rw[Int.pow_succ,Int.pow_succ,Int.mul_emod,ih,Int.emod_emod,<-Int.mul_emod]
theorem jap{l:List Int}{i:Nat}(h:i<l.length):l.take (i+1)=l.take i++[l.getD i 0]:=by
 rw[List.take_add_one];simp[h]
theorem jam{l:List Int}{i:Nat}(h:i<l.length):l.getD i 0∈l:=by
 have:l.getD i 0=l[i]:=by simp[h]
 rw[this];exact List.getElem_mem h
def pe:List Int->Int->Int
 |[],_=>0
 |x::l,z=>x+z*pe l z
theorem jeC(l m:List Int)(z:Int):pe (l++m) z=pe l z+z^l.length*pe m z:=by
 induction l with
 |nil=>simp[pe]
 |cons x l ih=>simp only[List.cons_append,pe,ih,List.length_cons,Int.pow_succ,Int.mul_add,Int.add_assoc];congr 2;rw[<-Int.mul_assoc,Int.mul_comm z]
theorem jlx{l:List Int}{i:Nat}(h:i<l.length)(z:Int):pe (l.take (i+1)) z=pe (l.take i) z+l.getD i 0*z^i:=by
 rw[jap h,jeC,List.length_take,Nat.min_eq_left (by omega)];simp only[pe,Int.mul_zero,Int.add_zero];rw[Int.mul_comm]
def evens:List Int->List Int
 |x::_::l=>x::evens l
 |l=>l
def odds:List Int->List Int
 |_::y::l=>y::odds l
 |_=>[]
theorem jia:∀(l:List Int) (z:Int),pe l z=pe (evens l) (z*z)+z*pe (odds l) (z*z)
 |[],z=>by simp[evens,odds,pe]
 |[x],z=>by simp[evens,odds,pe]
 |x::y::l,z=>by
  simp only[evens,odds,pe,jia l z];simp only[Int.mul_add,Int.add_assoc,Int.mul_assoc,Int.mul_left_comm,Int.mul_comm];congr 1;rw[<-Int.add_assoc,<-Int.add_assoc];congr 1;rw[Int.add_comm]
def dft(w:Int)(l:List Int):List Int:=(List.range l.length).map fun k=>pe l (w^k)% pP
theorem jaY(w:Int)(l:List Int):(dft w l).length=l.length:=by simp[dft]
theorem jdu{w:Int}{l:List Int}{k:Nat}(h:k<l.length):(dft w l).getD k 0=pe l (w^k)% pP:=by simp[dft,h]
theorem jdI{w:Int}{l:List Int}:∀x∈dft w l,0<=x/\x<998244353:=by
 intro x hx;obtain⟨k,_,rfl⟩:=List.mem_map.1 hx;exact⟨Int.emod_nonneg _ (by decide),Int.emod_lt_of_pos _ (by decide)⟩
theorem jcI:∀l:List Int,(evens l).length=(l.length+1)/2
 |[]=>rfl
 |[x]=>by simp[evens]
 |x::y::l=>by simp only[evens,List.length_cons,jcI l];omega
theorem jc6:∀l:List Int,(odds l).length=l.length/2
 |[]=>rfl
 |[x]=>by simp[odds]
 |x::y::l=>by simp only[odds,List.length_cons,jc6 l];omega
def jcO(k:Nat)(w:Int):Prop:=∀j,k=j+1->w^2^j% pP=998244352
theorem jcO.half{k:Nat}{w:Int}(h:jcO (k+1) w):jcO k (w*w% pP):=by
 rintro j rfl;rw[jhp,<-h (j+1) rfl,Nat.pow_succ,Nat.mul_comm,Int.pow_mul];congr 2;simp[Int.pow_succ]
def Cg(a b:Int):Prop:=a% pP=b% pP
theorem kan(a:Int):Cg a a:=rfl
theorem Cg.symm{b:Int}(h:Cg a b):Cg b a:=Eq.symm h
theorem Cg.trans{b c:Int}(h:Cg a b)(k:Cg b c):Cg a c:=Eq.trans h k
theorem kaR{b:Int}(h:a=b):Cg a b:=by rw[h];exact kan _
theorem Cg.emod{b:Int}(h:Cg a b):Cg (a% pP) b:=by unfold Cg at*;rw[Int.emod_emod];exact h
theorem Cg.add{b c:Int}(h:Cg a b)(k:Cg c d):Cg (a+c) (b+d):=by unfold Cg at*;rw[Int.add_emod,h,k,<-Int.add_emod]
theorem Cg.sub{b c:Int}(h:Cg a b)(k:Cg c d):Cg (a-c) (b-d):=by unfold Cg at*;rw[Int.sub_emod,h,k,<-Int.sub_emod]
theorem Cg.mul{b c:Int}(h:Cg a b)(k:Cg c d):Cg (a*c) (b*d):=by unfold Cg at*;rw[Int.mul_emod,h,k,<-Int.mul_emod]
theorem Cg.pow{b:Int}(h:Cg a b)(n:Nat):Cg (a^n) (b^n):=by
 induction n with
 |zero=>simp only[Int.pow_zero];exact kan _
 |succ n ih=>rw[Int.pow_succ,Int.pow_succ];exact ih.mul h
theorem Cg.pe{b:Int}(h:Cg a b)(l:List Int):Cg (pe l a) (pe l b):=by
 induction l with
 |nil=>exact kan _
 |cons x l ih=>exact(kan x).add (h.mul ih)
theorem kbR(a k:Int):Cg (a+k*pP) a:=by unfold Cg;rw[Int.add_mul_emod_self_right]
theorem jtM{w:Int}{l:List Int}{k:Nat}{n:Nat}(hn:l.length=2*n)(hk:k<n):
  (dft w l).getD k 0=((dft (w*w% pP) (evens l)).getD k 0+(dft (w*w% pP) (odds l)).getD k 0*(w^k% pP)% pP)% pP:=by
 have e1:=jcI l;have e2:=jc6 l;rw[jdu (by omega),jdu (by omega),jdu (by omega),jia];have hz:∀m:List Int,Cg (pe m ((w*w% pP)^k)) (pe m (w^k*w^k)):=fun m=>by
  refine Cg.pe ?_ m;rw[<-Int.mul_pow];exact(kan _).emod.pow k
 refine Cg.symm (Cg.trans (((hz _).emod.add (((hz _).emod.mul (kan (w^k)).emod).emod))) (kaR ?_));rw[Int.mul_comm (w^k) (pe _ _)]
theorem jr9{w:Int}{l:List Int}{k:Nat}{j:Nat}(hw:jcO (j+1) w)(hn:l.length=2*2^j)(hk:k<2^j):
  (dft w l).getD (k+2^j) 0=((dft (w*w% pP) (evens l)).getD k 0+pP-(dft (w*w% pP) (odds l)).getD k 0*(w^k% pP)% pP)% pP:=by
 have e1:=jcI l;have e2:=jc6 l;have hw':=hw j rfl;rw[jdu (by omega),jdu (by omega),jdu (by omega),jia];have hz:∀m:List Int,Cg (pe m ((w*w% pP)^k)) (pe m (w^k*w^k)):=fun m=>by
  refine Cg.pe ?_ m;rw[<-Int.mul_pow];exact(kan _).emod.pow k
 have hr:Cg (w^2^j) (-1):=by unfold Cg;rw[hw'];decide
 have hm:Cg (w^(k+2^j)) (-w^k):=by
  rw[Int.pow_add];refine((kan _).mul hr).trans (kaR ?_);rw[Int.mul_neg,Int.mul_one]
 have hs:∀m:List Int,Cg (pe m (w^(k+2^j)*w^(k+2^j))) (pe m (w^k*w^k)):=fun m=>by
  refine Cg.pe ((hm.mul hm).trans (kaR ?_)) m;rw[Int.neg_mul_neg]
 refine Cg.trans ((hs _).add (hm.mul (hs _))) (Cg.symm ?_);refine Cg.trans (((hz _).emod.add (kan _)).sub (((hz _).emod.mul (kan (w^k)).emod).emod)) ?_;refine Cg.trans (kaR ?_) (kbR _ 1);rw[Int.neg_mul,Int.mul_comm (w^k) (pe _ _)];omega
def In64(x:Int):Prop:= -9223372036854775808<=x/\x<=9223372036854775807
theorem joK(hC:Has C TA){va vb:AV}{a b:List Int}(ha:RI h va a)(hb:RI h vb b):ACalls C 12 [va,vb] h (fun r h'=>r=.bool (decide (a=b))/\h'=h):=by
 have l1:=ha.lt;have l2:=hb.lt;refine zf 12 B12 hC ?_;simp only[B12,zB];refine zs2 @ha.len @hb.len ?_;refine kaf (fun c=>?_) (fun c=>?_)
 ·refine zs ?_;have:a≠b:=fun e=>by subst e;omega
  simp[this]
 ·refine zs ?_;refine jae (fun j t h'=>h'=h/\t 0=va/\t 1=vb/\∃i:Nat,t 5=.int .i64 (i:Nat)/\i<=a.length/\a.take i=b.take i/\j=a.length-i) ⟨rfl,rfl,rfl,0,rfl,by omega,by simp,rfl⟩ ?_;rintro j t h' ⟨rfl,e0,e1,i,e5,hi,hp,hj⟩;refine zs4 e0 e1 e5 @ha.len ?_;refine kaf (fun c1=>?_) (fun c1=>?_)
  ·refine zs7 e0 e1 e5 @ha.idx @hb.idx @ha.load @hb.load ?_;refine kaf (fun c2=>?_) (fun c2=>?_)
   ·refine zs ?_;have:a≠b:=fun e=>c2 (by rw[e]);simp[this]
   ·refine zs3 e0 e1 e5 ?_;refine⟨_,⟨i+1,by simp,by omega,?_,rfl⟩,by omega⟩
    ·rw[jap (by omega),jap (by omega),hp,Decidable.not_not.1 c2]
  ·refine zs ?_;have e1:i=a.length:=by omega
   subst e1;rw[List.take_of_length_le (by omega),List.take_of_length_le (by omega)]at hp;simp[hp]
theorem jg2{x n:Int}(hn:1<=n):x% n=if x.tmod n<0 then x.tmod n+n else x.tmod n:=by
 have h1:x.tmod n<n:=Int.tmod_lt_of_pos x (by omega);have h2: -n<x.tmod n:=by have:=Int.lt_tmod_of_pos x (b:=n) (by omega);omega
 have h3:x% n=x.tmod n% n:=by
  have:=Int.tmod_add_mul_tdiv x n;rw[<-this,Int.add_mul_emod_self_left];rw[Int.tmod_add_mul_tdiv]
 rw[h3];split
 ·rw[<-Int.add_emod_right,Int.emod_eq_of_lt (by omega) (by omega)]
 ·rw[Int.emod_eq_of_lt (by omega) (by omega)]
theorem jc7(hC:Has C TA){x n:Int}(hx:In64 x)(hn:1<=n/\n<=9223372036854775807):ACalls C 23 [.int .i64 x,.int .i64 n] h (fun r h'=>r=.int .i64 (x% n)/\h'=h):=by
 unfold In64 at hx;have h1:x.tmod n<n:=Int.tmod_lt_of_pos x (by omega);have h2: -n<x.tmod n:=by have:=Int.lt_tmod_of_pos x (b:=n) (by omega);omega
 rw[jg2 hn.1];refine zf 23 B23 hC ?_;simp only[B23,zB];refine zs ?_;refine kaf (fun c=>?_) (fun c=>?_)
 ·simp-implicitDefEqProofs (disch:=first|exact zd|fail) only[↓wpPre,jbx,jby,Int.reduceToNat,Int.reducePow,Int.reduceMul,Int.reduceAdd,Int.reduceSub,Int.reduceNeg,Nat.reduceAdd,Nat.reduceMul,Nat.reducePow,Int.reduceLT,Int.reduceLE,Int.reduceEq,Nat.reduceEqDiff,if_pos c]
 ·simp-implicitDefEqProofs (disch:=first|exact zd|fail) only[↓wpPre,jbx,jby,Int.reduceToNat,Int.reducePow,Int.reduceMul,Int.reduceAdd,Int.reduceSub,Int.reduceNeg,Nat.reduceAdd,Nat.reduceMul,Nat.reducePow,Int.reduceLT,Int.reduceLE,Int.reduceEq,Nat.reduceEqDiff,if_neg c]
def tup2(a b:Int):AV:=.tuple [.int .i64 a,.int .i64 b]
def jai(v:AV)(e:Int):AV:=.tuple [v,.int .i64 e]
theorem kai{r r':AV}{K:AV->Heap->Prop}(hc:ACalls C g args h fun x h''=>x=r/\h''=h')(e:r=r')(hk:K r' h'): @jaa C g args h ⟨K⟩:=kaa (e▸hc) hk
def Fresh(h h':Heap)(v:AV)(l:List Int):Prop:=
 HSub h h'/\l.length<9223372036854775808/\∃i,h.size<=i/\v=.slice i 0 l.length (.known l.length)/\h'.get i=some (.cells (ints l) true 0)
theorem Fresh.ri{l:List Int}(H:Fresh h h' v l):RI h' v l:=by
 obtain⟨hs,hl,i,hi,rfl,hg⟩:=H;exact kah hg ⟨rfl,hl⟩ (Nat.le_refl _)
theorem Fresh.sub{l:List Int}(H:Fresh h h' v l):HSub h h':=H.1
theorem Fresh.mono{l:List Int}(H:Fresh h h' v l)(hs:HSub h0 h):Fresh h0 h' v l:=by
 obtain⟨hs',hl,i,hi,r⟩:=H;exact⟨hs.trans hs',hl,i,Nat.le_trans hs.size hi,r⟩
def jb6(f:Int->Int)(l:List Int)(i:Nat):List Int:=(l.take i).map f++l.drop i
theorem jc8(f:Int->Int)(l:List Int):jb6 f l 0=l:=by simp[jb6]
theorem jc9(f:Int->Int)(l:List Int):jb6 f l l.length=l.map f:=by simp[jb6]
theorem jcf(f:Int->Int)(l:List Int)(i:Nat):(jb6 f l i).length=l.length:=by simp[jb6];omega
theorem jdJ(f:Int->Int){l:List Int}{i:Nat}(h:i<l.length):(jb6 f l i).getD i 0=l.getD i 0:=by
 simp only[jb6,List.getD_eq_getElem?_getD];rw[List.getElem?_append_right (by simp;omega)];simp[Nat.min_eq_left (Nat.le_of_lt h)]
theorem jdK(f:Int->Int){l:List Int}{i:Nat}(h:i<l.length):(jb6 f l i).set i (f (l.getD i 0))=jb6 f l (i+1):=by
 unfold jb6;have hl:((l.take i).map f).length=i:=by simp;omega
 rw[List.set_append_right _ _ (by omega),hl,Nat.sub_self,jap h,List.map_append,List.append_assoc];congr 1;have:l.drop i=l.getD i 0::l.drop (i+1):=by
  rw[List.drop_eq_getElem_cons h];simp[h]
 rw[this];rfl
def Asks(C:Ctx)(f:AV)(p:Int->Bool)(l:List Int)(h:Heap):Prop:=
 ∃g c,f=.func g [] c/\∀x∈l,ACalls C g ([]++[.int .i64 x]++c) h (fun r h'=>r=.bool (p x)/\h'=h)
def idxI(p:Int->Bool)(l:List Int):Int:=if l.any p then l.findIdx p else-1
theorem jfZ{p:Int->Bool}{l:List Int}{i:Nat}(hi:i<l.length)(h:(l.take i).any p=false)(hp:p (l.getD i 0)=false):(l.take (i+1)).any p=false:=by
 rw[jap hi,List.any_append,h];simpa using hp
theorem jgy{p:Int->Bool}{l:List Int}{i:Nat}(hi:i<l.length)(h:(l.take i).any p=false)(hp:p (l.getD i 0)=true):l.any p=true/\l.findIdx p=i:=by
 have e:l.getD i 0=l[i]:=by simp[hi]
 refine⟨List.any_eq_true.2 ⟨l.getD i 0,jam hi,hp⟩,?_⟩;rw[List.findIdx_eq hi];refine⟨by rw[<-e];exact hp,fun j hj=>?_⟩;have:=List.any_eq_false.1 h (l[j]) (by rw[List.mem_take_iff_getElem];exact⟨j,by omega,rfl⟩);simpa using this
theorem ji5(hC:Has C TA){f:AV}{l:List Int}{p:Int->Bool}(hl:RI h v l)(hf:Asks C f p l h):ACalls C 50 [v,f] h (fun r h'=>r=.int .i64 (idxI p l)/\h'=h):=by
 obtain⟨g,c,rfl,hf⟩:=hf;have hlt:=hl.lt;refine zf 50 B50 hC ?_;simp only[B50,zB];refine zs1 @hl.len ?_;refine jae (fun j t h'=>h'=h/\t 0=v/\t 1=.func g [] c/\t 7=.int .i64 l.length/\∃i:Nat,t 8=.int .i64 (i:Nat)/\i<=l.length/\(l.take i).any p=false/\j=l.length-i) ⟨rfl,rfl,rfl,rfl,0,rfl,by omega,by simp,rfl⟩ ?_;rintro j t h' ⟨rfl,e0,e1,e7,i,e8,hi,hp,hj⟩;refine zs4 e0 e1 e7 e8 ?_;refine kaf (fun c1=>?_) (fun c1=>?_)
 ·have hi':i<l.length:=by omega
  refine zs6 e0 e1 e7 e8 @hl.idx @hl.load ?_;refine kaa (hf _ (jam hi')) (zs ?_);refine kaf (fun c2=>?_) (fun c2=>?_)
  ·have:=jgy hi' hp c2;simp-implicitDefEqProofs (disch:=first|exact zd|fail) only[↓wpPre,jbx,jby,Int.reduceToNat,Int.reducePow,Int.reduceMul,Int.reduceAdd,Int.reduceSub,Int.reduceNeg,Nat.reduceAdd,Nat.reduceMul,Nat.reducePow,Int.reduceLT,Int.reduceLE,Int.reduceEq,Nat.reduceEqDiff,idxI,if_pos this.1,this.2]
  ·refine zs4 e0 e1 e7 e8 ?_;exact⟨_,⟨i+1,by simp,by omega,jfZ hi' hp (by simpa using c2),rfl⟩,by omega⟩
 ·have:i=l.length:=by omega
  subst this;rw[List.take_of_length_le (Nat.le_refl _)]at hp;refine zs2 @idxI.eq_1 hp ?_;simp
theorem jd9{p:Int->Bool}{l:List Int}:0<=idxI p l↔l.any p=true:=by
 unfold idxI;split
 ·rename_i h;simp[h]
 ·rename_i h;simp[h]
theorem jbT(hC:Has C TA){f:AV}{l:List Int}{p:Int->Bool}(hl:RI h v l)(hf:Asks C f p l h):ACalls C 37 [v,f] h (fun r h'=>r=.bool (l.any p)/\h'=h):=by
 refine zf 37 B37 hC ?_;simp only[B37,zB];refine zs ?_;refine kaa (ji5 hC hl hf) (zs ?_);cases hx:l.any p with
 |true=>simp[jd9,hx]
 |false=>simp[jd9,hx]
theorem seqx{a b:List Int}(hl:a.length=b.length)(h:∀i,i<a.length->a.getD i 0=b.getD i 0):a=b:=by
 refine List.ext_getElem hl fun i h1 h2=>?_;have:=h i h1;simpa[h1,h2]using this
def Grw(h0 h:Heap)(sz:Nat)(v:AV)(n:Nat)(cs:List AV):Prop:=
 HSub h0 h/\cs.length=n*sz/\n<9223372036854775808/\((v=.nilslice/\n=0)\/∃i ex,h0.size<=i/\v=.slice i 0 n (.unk 0)/\h.get i=some (.cells (cs++ex) true sz))
theorem jkd{ex:List AV}{k:Nat}(h:cs.length=k):cut (cs++ex) 0 k=cs:=by subst h;simp[cut]
def GrwI(h0 h:Heap)(v:AV)(l:List Int):Prop:=Grw h0 h 1 v l.length (ints l)
def snocH(H:Heap)(nid:Option Nat)(v:AV)(sz:Nat)(cs:List AV):Heap:=
 match v with
 |.slice i _ _ _=>(H.put i .dead).new nid (.cells cs true sz)
 |_=>H.new nid (.cells cs true sz)
section
variable {h0 h H : Heap} {sz bytes n m k : Nat} {v : AV} {cs news : List AV} {l : List Int}
theorem Grw.sub(A:Grw h0 h sz v n cs):HSub h0 h:=A.1
theorem Grw.sl(A:Grw h0 h sz v n cs):SL h sz v n cs:=by
 obtain⟨hs,hl,hn,⟨rfl,rfl⟩|⟨i,ex,hi,rfl,hg⟩⟩:=A
 ·exact⟨hl,hn,.inl ⟨rfl,rfl⟩⟩
 ·exact⟨hl,hn,.inr ⟨i,0,_,_,true,sz,rfl,hg,by rw[List.length_append];omega,jkd hl,by simp⟩⟩
theorem GrwI.ri(A:GrwI h0 h v l):RI h v l:=Grw.sl A
theorem GrwI.sub(A:GrwI h0 h v l):HSub h0 h:=A.1
theorem kaZ(h:Heap)(sz:Nat):Grw h h sz .nilslice 0 []:=⟨kag _,by simp,by omega,.inl ⟨rfl,rfl⟩⟩
theorem kbJ(h:Heap):GrwI h h .nilslice []:=kaZ h 1
theorem kaV(hs:HSub h0 h):GrwI h0 h .nilslice []:=⟨hs,by simp[ints],by simp,.inl ⟨rfl,rfl⟩⟩
theorem Grw.mono(A:Grw h0 h sz v n cs)(hs:HSub h H):Grw h0 H sz v n cs:=by
 obtain⟨h1,hl,hn,⟨rfl,rfl⟩|⟨i,ex,hi,rfl,hg⟩⟩:=A
 ·exact⟨h1.trans hs,hl,hn,.inl ⟨rfl,rfl⟩⟩
 ·exact⟨h1.trans hs,hl,hn,.inr ⟨i,ex,hi,rfl,(hs.get i (kab hg)).trans hg⟩⟩
theorem GrwI.mono(A:GrwI h0 h v l)(hs:HSub h H):GrwI h0 H v l:=Grw.mono A hs
theorem kbF{h1':Heap}(A:Grw h h1' sz v n cs)(hs:HSub h0 h):Grw h0 h1' sz v n cs:=by
 obtain⟨h1,hl,hn,⟨rfl,rfl⟩|⟨i,ex,hi,rfl,hg⟩⟩:=A
 ·exact⟨hs.trans h1,hl,hn,.inl ⟨rfl,rfl⟩⟩
 ·exact⟨hs.trans h1,hl,hn,.inr ⟨i,ex,Nat.le_trans hs.size hi,rfl,hg⟩⟩
theorem GrwI.base{h1:Heap}(A:GrwI h h1 v l)(hs:HSub h0 h):GrwI h0 h1 v l:=kbF A hs
theorem kaQ(A:Grw h0 h sz v n cs)(hs:HSub h H)(hm:m≠0)(hb:(n+m)*bytes<=1099511627776)(h1:news.all AV.one=true):
  jav H none sz bytes v m news=some (.slice H.size 0 (n+m) (.unk 0),snocH H none v sz (cs++news)):=by
 obtain⟨_,hl,hn,⟨rfl,rfl⟩|⟨i,ex,hi,rfl,hg⟩⟩:=A
 ·have:cs=[]:=List.eq_nil_of_length_eq_zero (by omega);subst this;rw[Nat.zero_add]at hb|-;rw[app_nil hm hb];simp[snocH,Heap.new]
 ·have e:=(hs.get i (kab hg)).trans hg;rw[app_unk,e,appUB_grow (by rw[List.length_append];omega) (by omega) hb h1,jkd hl];rfl
def appK(n:Nat)(H:Heap)(v r:AV)(sz:Nat)(cs:List AV):Option ABlk->Option (AV×Heap)
 |none=>some (r,snocH H (some n) v sz cs)
 |_=>none
theorem appK_none{r:AV}:appK k H v r sz cs none=some (r,snocH H (some k) v sz cs):=rfl
theorem kbp(A:Grw h0 h sz v n cs)(hs:HSub h H)(hk:h.size<=k/\k<H.size)(hm:m≠0)(hb:(n+m)*bytes<=1099511627776)(h1:news.all AV.one=true):
  jav H (some k) sz bytes v m news=appK k H v (.slice k 0 (n+m) (.unk 0)) sz (cs++news) (H.get k):=by
 obtain⟨_,hl,hn,⟨rfl,rfl⟩|⟨i,ex,hi,rfl,hg⟩⟩:=A
 ·have:cs=[]:=List.eq_nil_of_length_eq_zero (by omega);subst this;rw[Nat.zero_add]at hb|-;have hr:H.room (some k)=((H.get k).isNone&&decide (k<H.size)):=rfl;simp only[jav,if_neg hm];by_cases e:(H.get k).isNone=true
  ·have e':H.get k=none:=by simpa using e
   rw[if_pos ⟨hb,by rw[hr,e];simpa using hk.2⟩];exact(congrArg (appK k H .nilslice (.slice k 0 m (.unk 0)) sz ([]++news)) e').symm
  ·rw[if_neg (by rw[hr];simp[e])];obtain⟨b,e'⟩:∃b,H.get k=some b:=by cases x:H.get k with|none=>simp[x]at e|some b=>exact⟨b,rfl⟩
   exact(congrArg (appK k H .nilslice (.slice k 0 m (.unk 0)) sz ([]++news)) e').symm
 ·have e0:=(hs.get i (kab hg)).trans hg;have hr:H.room (some k)=((H.get k).isNone&&decide (k<H.size)):=rfl;simp only[jav,e0];by_cases e:(H.get k).isNone=true
  ·have e':H.get k=none:=by simpa using e
   rw[if_pos ⟨trivial,by omega,by rw[List.length_append];omega,h1,hb,by rw[hr,e];simpa using hk.2,by omega⟩,jkd hl];exact(congrArg (appK k H (.slice i 0 n (.unk 0)) (.slice k 0 (n+m) (.unk 0)) sz (cs++news)) e').symm
  ·rw[if_neg (by rw[hr];simp[e]),if_neg (by omega)];obtain⟨b,e'⟩:∃b,H.get k=some b:=by cases x:H.get k with|none=>simp[x]at e|some b=>exact⟨b,rfl⟩
   exact(congrArg (appK k H (.slice i 0 n (.unk 0)) (.slice k 0 (n+m) (.unk 0)) sz (cs++news)) e').symm
theorem kaH(A:Grw h0 h sz v n cs)(hs:HSub h H)(hl:news.length=m*sz)(hn:n+m<9223372036854775808):
  Grw h0 (snocH H none v sz (cs++news)) sz (.slice H.size 0 (n+m) (.unk 0)) (n+m) (cs++news):=by
 obtain⟨h1,hl',hn',⟨rfl,rfl⟩|⟨i,ex,hi,rfl,hg⟩⟩:=A
 ·exact⟨(h1.trans hs).push _,by rw[List.length_append,Nat.add_mul];omega,hn,.inr ⟨H.size,[],(h1.trans hs).size,rfl,by rw[List.append_nil];exact get_push_eq rfl⟩⟩
 ·exact⟨((h1.trans hs).put hi _).push _,by rw[List.length_append,Nat.add_mul];omega,hn,.inr ⟨H.size,[],(h1.trans hs).size,rfl,by rw[List.append_nil];exact get_push_eq rfl⟩⟩
theorem kbC(A:Grw h0 h sz v n cs)(hs:HSub h H)(hk:h.size<=k/\k<H.size)(hl:news.length=m*sz)(hn:n+m<9223372036854775808):
  Grw h0 (snocH H (some k) v sz (cs++news)) sz (.slice k 0 (n+m) (.unk 0)) (n+m) (cs++news):=by
 obtain⟨h1,hl',hn',⟨rfl,rfl⟩|⟨i,ex,hi,rfl,hg⟩⟩:=A
 ·have:=h1.size;exact⟨(h1.trans hs).put (by omega) _,by rw[List.length_append,Nat.add_mul];omega,hn,.inr ⟨k,[],by omega,rfl,by rw[List.append_nil];exact get_put_eq rfl hk.2⟩⟩
 ·have:=h1.size;exact⟨((h1.trans hs).put hi _).put (by omega) _,by rw[List.length_append,Nat.add_mul];omega,hn,.inr ⟨k,[],by omega,rfl,by rw[List.append_nil];exact get_put_eq rfl (by simpa using hk.2)⟩⟩
theorem GrwI.app{x:Int}(A:GrwI h0 h v l):∀(H:Heap),HSub h H->l.length+1<=1073741824->jav H none 1 8 v 1 [.int .i64 x]=some (.slice H.size 0 (l.length+1) (.unk 0),snocH H none v 1 (ints (l++[x]))):=by
 intro H hs hb;rw[kaQ A hs (by decide) (by omega) (by rfl),ints_snoc]
theorem GrwI.appS{x:Int}(A:GrwI h0 h v l):∀(H:Heap) (k:Nat),HSub h H->h.size<=k/\k<H.size->l.length+1<=1073741824->jav H (some k) 1 8 v 1 [.int .i64 x]=appK k H v (.slice k 0 (l.length+1) (.unk 0)) 1 (ints (l++[x])) (H.get k):=by
 intro H k hs hk hb;rw[kbp A hs hk (by decide) (by omega) (by rfl),ints_snoc]
theorem GrwI.snoc{x:Int}(A:GrwI h0 h v l)(hs:HSub h H)(hb:l.length+1<=1073741824):GrwI h0 (snocH H none v 1 (ints (l++[x]))) (.slice H.size 0 (l.length+1) (.unk 0)) (l++[x]):=by
 have:=kaH (news:=[.int .i64 x]) (m:=1) A hs rfl (by omega);rw[ints_snoc]at this;unfold GrwI;rw[List.length_append];exact this
theorem GrwI.snocS{x:Int}(A:GrwI h0 h v l)(hs:HSub h H)(hk:h.size<=k/\k<H.size)(hb:l.length+1<=1073741824):GrwI h0 (snocH H (some k) v 1 (ints (l++[x]))) (.slice k 0 (l.length+1) (.unk 0)) (l++[x]):=by
 have:=kbC (news:=[.int .i64 x]) (m:=1) A hs hk rfl (by omega);rw[ints_snoc]at this;unfold GrwI;rw[List.length_append];exact this
theorem ka5{i:Nat}(hs:HSub h0 h)(hi:h0.size<=i)(hl:l.length<9223372036854775808)(hg:h.get i=some (.cells (ints l) true 1)):GrwI h0 h (.slice i 0 l.length (.unk 0)) l:=
 ⟨hs,by simp[ints],hl,.inr ⟨i,[],hi,rfl,by rw[List.append_nil];exact hg⟩⟩
end
def contB(n sz o:Nat):Option ABlk->Option (Nat×List AV)
 |some (.cells vs _ _)=>if o+n*sz<=vs.length then some (n,cut vs o (n*sz))else none
 |_=>none
theorem cont_slice{h:Heap}{sz i o n:Nat}{c:Cap}:jaH h sz (.slice i o n c)=contB n sz o (h.get i):=by
 simp only[jaH,contB];cases h.get i with
 |none=>rfl
 |some b=>cases b<;>rfl
theorem joL{n o:Nat}{wr:Bool}(h:o+n*sz<=vs.length):contB n sz o (some (.cells vs wr u))=some (n,cut vs o (n*sz)):=by simp only[contB,if_pos h]
theorem contB_one{x:AV}{u:Nat}{wr:Bool}:contB 1 1 0 (some (.cells [x] wr u))=some (1,[x]):=rfl
theorem joM(hC:Has C TA){l:List Int}(hl:RI h v l)(hb:1<=l.length/\l.length<=1073741824):ACalls C 42 [v] h (fun r h'=>HSub h h'/\∃i,h.size<=i/\r=.slice i 0 l.length (.unk 0)/\h'.get i=some (.cells (ints l) true 1)):=by
 have hlt:=hl.lt;obtain⟨i,o,n,cp,rfl⟩:∃i o n cp,v=.slice i o n cp:=by
  obtain⟨_,_,⟨rfl,h1⟩|⟨i,o,cp,vs,wr,u,rfl,_⟩⟩:=hl
  ·omega
  ·exact⟨_,_,_,_,rfl⟩
 have hc':jaH (h.push (.cells [] true 0)) 1 (.slice i o n cp)=some (l.length,ints l):=(hl.mono (kac _ _)).content;have h0:l.length≠0:=by omega
 refine zf 42 B42 hC ?_;simp only[B42,zB];simp-implicitDefEqProofs (disch:=first|exact zd|fail) only[↓wpPre,jbx,jby,Int.reduceToNat,Int.reducePow,Int.reduceMul,Int.reduceAdd,Int.reduceSub,Int.reduceNeg,Nat.reduceAdd,Nat.reduceMul,Nat.reducePow,Int.reduceLT,Int.reduceLE,Int.reduceEq,Nat.reduceEqDiff,show eqnA false (.slice i o n cp)=some (.bool false)from rfl,hc'];exact⟨(kac _ _).push _,h.size+1,by omega,rfl,get_push_eq rfl⟩
theorem jsa{i:Nat}{b:ABlk}(hg:h.get i=some b):h.put i b=h:=by
 refine heap_eq rfl fun j=>?_;show(if j=i then(if i<h.size then some b else none)else h.get j)=h.get j;split
 ·rename_i e;subst e;rw[if_pos (kab hg),hg]
 ·rfl
def revP(l:List Int)(j:Nat):List Int:=(List.range l.length).map fun k=>if k<j\/l.length<=k+j then l.getD (l.length-1-k) 0 else l.getD k 0
theorem revP_length(l:List Int)(j:Nat):(revP l j).length=l.length:=by simp[revP]
theorem jeS{l:List Int}{j k:Nat}(h:k<l.length):(revP l j).getD k 0=if k<j\/l.length<=k+j then l.getD (l.length-1-k) 0 else l.getD k 0:=by simp[revP,h]
theorem jqi(l:List Int):revP l 0=l:=by
 refine seqx (by simp[revP]) fun i hi=>?_;rw[revP_length]at hi;rw[jeS hi,if_neg (by omega)]
theorem jqj{l:List Int}{j:Nat}(h:j<l.length-1-j):((revP l j).set j (l.getD (l.length-1-j) 0)).set (l.length-1-j) (l.getD j 0)=revP l (j+1):=by
 refine seqx (by simp[revP]) fun i hi=>?_;simp only[List.length_set,revP_length]at hi;rw[jeS hi];simp only[List.getD_eq_getElem?_getD,List.getElem?_set,List.length_set,revP_length];by_cases e1:l.length-1-j=i
 ·rw[if_pos e1,if_pos (by omega),if_pos (by omega),<-e1,show l.length-1-(l.length-1-j)=j by omega];rfl
 ·rw[if_neg e1];by_cases e2:j=i
  ·rw[if_pos e2,if_pos (by omega),if_pos (by omega),e2];rfl
  ·rw[if_neg e2];have:=jeS (l:=l) (j:=j) hi;rw[List.getD_eq_getElem?_getD]at this;rw[this];by_cases e3:i<j\/l.length<=i+j
   ·rw[if_pos e3,if_pos (by omega)];simp
   ·rw[if_neg e3,if_neg (by omega)];simp
theorem jqk{l:List Int}{j:Nat}(h:l.length<=2*j+1)(h2:2*j<=l.length):revP l j=l.reverse:=by
 refine seqx (by simp[revP]) fun i hi=>?_;rw[revP_length]at hi;rw[jeS hi];have:l.reverse.getD i 0=l.getD (l.length-1-i) 0:=by simp[List.getElem?_reverse hi]
 rw[this];split
 ·rfl
 ·congr 1;omega
theorem jly(hC:Has C TA){l:List Int}{i0 u:Nat}{c:Cap}{h:Heap}(hg:h.get i0=some (.cells (ints l) true u))(hlt:l.length<9223372036854775808)(h1:1<=l.length):
  ACalls C 43 [.slice i0 0 l.length c] h (fun _ h'=>h'=h.put i0 (.cells (ints l.reverse) true u)):=by
 have hi0:=kab hg;refine zf 43 B43 hC ?_;simp only[B43,zB];refine zs ?_;refine jae (fun j t h'=>∃i:Nat,h'=h.put i0 (.cells (ints (revP l i)) true u)/\t 0=.slice i0 0 l.length c/\t 2=.int .i64 (i:Nat)/\t 3=.int .i64 ((l.length-1-i:Nat):Int)/\2*i<=l.length/\j=l.length-2*i) (j0:=l.length)
  ⟨0,by rw[jqi,jsa hg],rfl,rfl,congrArg (AV.int .i64) (show((l.length:Int)-1)=((l.length-1-0:Nat):Int)by omega),by omega,rfl⟩ ?_
 rintro j t h' ⟨i,rfl,e0,e2,e3,hi,hj⟩;have hrl:=revP_length l i;refine zs3 e0 e2 e3 ?_;refine kaf (fun c1=>?_) (fun c1=>?_)
 ·have r1:=jeS (l:=l) (j:=i) (k:=i) (by omega);have r2:=jeS (l:=l) (j:=i) (k:=l.length-1-i) (by omega);rw[if_neg (by omega)]at r1;rw[if_neg (by omega)]at r2;refine zs5 e0 e2 e3 r1 r2 ?_;refine⟨_,⟨i+1,?_,by simp,?_,by omega,rfl⟩,by omega⟩
  ·rw[<-jqj (by omega)]
  ·omega
 ·refine zs ?_;rw[jqk (by omega) (by omega)]
theorem jea{h:Heap}{i o g:Nat}{f c vs:List AV}{u:Nat}(hv:o<vs.length):jdj h i 1 o (.func g f c) (some (.cells vs true u))=some (h.put i (.cells (vs.set o (.func g f c)) true u)):=jcW ⟨rfl,rfl,hv⟩
def smp(p:Int×Int):AV:=.agg [.int .i64 p.1,.int .i64 p.2]
theorem jcz(p:Int×Int):(smp p).free:=by simp[smp,AV.free,AV.bel,kar]
theorem jcg{l:List (Int×Int)}{k:Nat}(h:k<l.length):l.getD k (0,0)∈l:=by
 rw[List.getD_eq_getElem?_getD,List.getElem?_eq_getElem h];exact List.getElem_mem h
def elF(sz:Nat)(v:AV)(k off:Nat):AV:=
 match v with
 |.slice i o _ _=>.ptr i (o+k*sz+off)
 |_=>.undef
section
variable {h h' h0 H : Heap} {v : AV} {l : List (Int × Int)} {n : Nat} {cs : List AV}
theorem SI.len(A:SI h v l):lenA v=some (.int .i64 l.length):=SL.len A
theorem SI.cells(A:SI h v l):v.cells=[v]:=kbq A
theorem SI.one(A:SI h v l):v.one=true:=SL.one A
theorem SI.lt(A:SI h v l):l.length<9223372036854775808:=SL.lt A
theorem SI.mono(A:SI h v l)(hs:HSub h h'):SI h' v l:=SL.mono A hs
theorem SI.content(A:SI h v l):jaH h 2 v=some (l.length,smps l):=SL.content A
theorem SI.idx(A:SI h v l){kk:IntKind}{k:Int}(hk:0<=k/\k<l.length):idxA 2 v (.int kk k)=some (elA 2 v k.toNat):=SL.idx A hk
theorem jsb{k:Nat}(hk:k<l.length):cut (smps l) (k*2) 2=[.int .i64 (l.getD k (0,0)).1,.int .i64 (l.getD k (0,0)).2]:=by
 have e:l[k]? =some (l.getD k (0,0)):=by simp[hk]
 have h0:=jfX (l:=l) (k:=k);have h1:=jfY (l:=l) (k:=k);rw[e]at h0 h1;unfold cut;obtain⟨h0',e0⟩:=List.getElem?_eq_some_iff.1 h0;obtain⟨h1',e1⟩:=List.getElem?_eq_some_iff.1 h1;rw[List.drop_eq_getElem_cons h0',List.drop_eq_getElem_cons h1',e0,e1];rfl
theorem SI.loadA(A:SI h v l){k:Nat}(hk:k<l.length):Ae.loadA h true 2 (elA 2 v k)=some (smp (l.getD k (0,0))):=by
 rw[SL.loadA A hk,jsb hk];rfl
theorem SI.fld(A:SI h v l):∀(k off:Nat),k<l.length->jb4 off (elA 2 v k)=some (elF 2 v k off):=by
 intro k off hk;obtain⟨_,_,⟨rfl,h1⟩|⟨i,o,c,vs,wr,u,rfl,_⟩⟩:=A
 ·omega
 ·rfl
theorem SI.load0(A:SI h v l){k:Nat}(hk:k<l.length):Ae.loadA h false 1 (elF 2 v k 0)=some (.int .i64 (l.getD k (0,0)).1):=by
 have e:l[k]? =some (l.getD k (0,0)):=by simp[hk]
 obtain⟨hl,hlt,⟨rfl,h1⟩|⟨i,o,c,vs,wr,u,rfl,hg,hle,hc,_⟩⟩:=A
 ·omega
 ·have h2:=jfX (l:=l) (k:=k);rw[<-hc,cut,List.getElem?_take_of_lt (by omega),List.getElem?_drop,e]at h2;simp only[elF,Ae.loadA,hg,partA,Bool.false_eq_true,if_false];rw[Nat.add_zero,h2];rfl
theorem SI.load1(A:SI h v l){k:Nat}(hk:k<l.length):Ae.loadA h false 1 (elF 2 v k 1)=some (.int .i64 (l.getD k (0,0)).2):=by
 have e:l[k]? =some (l.getD k (0,0)):=by simp[hk]
 obtain⟨hl,hlt,⟨rfl,h1⟩|⟨i,o,c,vs,wr,u,rfl,hg,hle,hc,_⟩⟩:=A
 ·omega
 ·have h2:=jfY (l:=l) (k:=k);rw[<-hc,cut,List.getElem?_take_of_lt (by omega),List.getElem?_drop,e]at h2;simp only[elF,Ae.loadA,hg,partA,Bool.false_eq_true,if_false];rw[Nat.add_assoc,h2];rfl
theorem jda{k:Nat}{p:Int×Int}(hk:k<l.length):splice (smps l) (k*2) [.int .i64 p.1,.int .i64 p.2]=smps (l.set k p):=by
 unfold splice
 induction l generalizing k with
 |nil=>simp at hk
 | cons q l ih =>
  cases k with
  |zero=>simp[jcG]
  |succ k=>
   have:=ih (k:=k) (by simpa using hk);simp only[List.length_cons,List.length_nil]at this|-;rw[jcG,List.set_cons_succ,jcG,<-this,show(k+1)*2=k*2+1+1 by omega];simp only[List.take_succ_cons,List.cons_append];rw[show k*2+1+1+(0+1+1)=k*2+(0+1+1)+1+1 by omega,List.drop_succ_cons,List.drop_succ_cons]
theorem jql{k:Nat}:(smps l).drop (k*2)=smps (l.drop k):=by
 induction l generalizing k with
 |nil=>simp[smps]
 |cons p l ih=>
  cases k with
  |zero=>rfl
  |succ k=>rw[jcG,List.drop_succ_cons,<-ih,show(k+1)*2=k*2+1+1 by omega];rfl
theorem jbv{p:Int×Int}{n:Nat}:jbo n [.int .i64 p.1,.int .i64 p.2]=smps (List.replicate n p):=by
 induction n with
 |zero=>rfl
 |succ n ih=>rw[List.replicate_succ,jcG,<-ih];simp[jbo,List.replicate_succ]
def GrwS(h0 h:Heap)(v:AV)(l:List (Int×Int)):Prop:=Grw h0 h 2 v l.length (smps l)
theorem GrwS.si(A:GrwS h0 h v l):SI h v l:=Grw.sl A
theorem GrwS.sub(A:GrwS h0 h v l):HSub h0 h:=A.1
theorem kbG(h:Heap):GrwS h h .nilslice []:=kaZ h 2
theorem GrwS.app{x y:Int}(A:GrwS h0 h v l):∀(H:Heap),HSub h H->l.length+1<=1073741824->jav H none 2 16 v 1 [.int .i64 x,.int .i64 y]=some (.slice H.size 0 (l.length+1) (.unk 0),snocH H none v 2 (smps (l++[(x,y)]))):=by
 intro H hs hb;rw[kaQ A hs (by decide) (by omega) (by rfl),jlu]
theorem GrwS.snoc{x y:Int}(A:GrwS h0 h v l)(hs:HSub h H)(hb:l.length+1<=1073741824):GrwS h0 (snocH H none v 2 (smps (l++[(x,y)]))) (.slice H.size 0 (l.length+1) (.unk 0)) (l++[(x,y)]):=by
 have:=kaH (news:=[.int .i64 x,.int .i64 y]) (m:=1) A hs rfl (by omega);rw[jlu]at this;unfold GrwS;rw[List.length_append];exact this
end
theorem contB_two{x y:AV}{u:Nat}{wr:Bool}:contB 1 2 0 (some (.cells [x,y] wr u))=some (1,[x,y]):=rfl
theorem jke(x:Int):IntKind.u32.wrap x=x% 4294967296:=by
 show IntKind.wrap .u32 x=_;simp[IntKind.wrap,IntKind.bits,IntKind.signed]
def jqm(t p:Int):Prop:=t< -1073741824\/1073741824<t\/p<1\/1073741824<p
instance (t p:Int):Decidable (jqm t p):=by unfold jqm;infer_instance
def phI(a s n:Int):Int:=(a+s*(n% 4294967296))% 4294967296
theorem jqn(a s n:Int):0<=phI a s n/\phI a s n<4294967296:=⟨Int.emod_nonneg _ (by decide),Int.emod_lt_of_pos _ (by decide)⟩
def U32(x:Int):Prop:=0<=x/\x<=4294967295
def quarterL:List Int:=[127,126,125,122,117,112,106,98,90,81,71,60,49,37,25,12,0]
def carr(k:Nat):Int×Int:=
 let a:=quarterL.getD (k% 16) 0
 let b:=quarterL.getD (16-k% 16) 0
 match k/16 with
 |0=>(a,b)
 |1=>(-b,a)
 |2=>(-a,-b)
 |_=>(b,-a)
theorem joN:(List.range 64).all (fun k=>decide (-127<=(carr k).1/\(carr k).1<=127/\ -127<=(carr k).2/\(carr k).2<=127))=true:=by decide+kernel
theorem jtN{k:Nat}(h:k<64): -127<=(carr k).1/\(carr k).1<=127/\ -127<=(carr k).2/\(carr k).2<=127:=by
 have:=List.all_eq_true.1 joN k (by simpa using h);simpa using this
def carP(ph:Int):Int×Int:=carr (ph/67108864).toNat
theorem jkf{ph:Int}(h:U32 ph): -127<=(carP ph).1/\(carP ph).1<=127/\ -127<=(carP ph).2/\(carP ph).2<=127:=by
 unfold U32 at h;exact jtN (by omega)
theorem juv(a s n:Int):phI a s n=(a+s*n)% 4294967296:=by
 unfold phI;have h:=Int.mul_ediv_add_emod n 4294967296;have:a+s*n=a+s*(n% 4294967296)+s*(n/4294967296)*4294967296:=by
  have:s*n=s*(4294967296*(n/4294967296)+n% 4294967296):=by rw[h]
  rw[this,Int.mul_add]
  grind
 rw[this,Int.add_mul_emod_self_right]
theorem jeb(a s n:Int):U32 (phI a s n):=by have:=jqn a s n;unfold U32;omega
def mixP(x t:Int×Int):Int×Int:=(x.1*t.1+x.2*t.2,x.2*t.1-x.1*t.2)
def je4(x:Int×Int):Prop:=(-70368744177664<=x.1/\x.1<=70368744177664)/\(-70368744177664<=x.2/\x.2<=70368744177664)
instance (x:Int×Int):Decidable (je4 x):=by unfold je4;exact inferInstance
theorem jbE{x t B:Int}(hx: -B<=x/\x<=B)(ht: -127<=t/\t<=127): -(B*127)<=x*t/\x*t<=B*127:=by
 have hB:0<=B:=by omega
 constructor
 ·have h1:0<=(B+x)*(127+t):=Int.mul_nonneg (by omega) (by omega);have h2:0<=(B-x)*(127-t):=Int.mul_nonneg (by omega) (by omega);have e1:(B+x)*(127+t)=B*127+B*t+x*127+x*t:=by grind
  have e2:(B-x)*(127-t)=B*127-B*t-x*127+x*t:=by grind
  omega
 ·have h1:0<=(B+x)*(127-t):=Int.mul_nonneg (by omega) (by omega);have h2:0<=(B-x)*(127+t):=Int.mul_nonneg (by omega) (by omega);have e1:(B+x)*(127-t)=B*127-B*t+x*127-x*t:=by grind
  have e2:(B-x)*(127+t)=B*127+B*t-x*127-x*t:=by grind
  omega
def appMA(nid:Option Nat)(z:List AV)(bytes:Nat)(h:Heap)(s:AV):AV->Option (AV×Heap)
 |.int _ m=>if 0<=m/\m<=2^36 then jav h nid z.length bytes s m.toNat (jbo m.toNat z)else none
 |_=>none
theorem ji6{nid:Option Nat}{ev:AOpd->AV}{h:Heap}{K:AV->Heap->Prop}{z bytes s x}: @opR nid (.appendMake z bytes s x) ev h ⟨K⟩=@opt2 (appMA nid z bytes h (ev s) (ev x)) ⟨K⟩:=by
 simp only[opR,aOp,opt2];cases ev x<;>simp only[appMA];rename_i k m;by_cases c:0<=m/\m<=2^36
 ·simp only[if_pos c];cases jav h nid z.length bytes (ev s) m.toNat (jbo m.toNat z)<;>rfl
 ·simp only[if_neg c]
theorem jqo{nid z bytes h s}{k:IntKind}{m:Int}(c:0<=m/\m<=68719476736):appMA nid z bytes h s (.int k m)=jav h nid z.length bytes s m.toNat (jbo m.toNat z):=by
 simp only[appMA];rw[if_pos (by omega)]
theorem joO{i n:Nat}(hg:h.get i=some (.cells vs true 1))(hn:n<=vs.length):jaO h 1 (.slice i 0 n (.unk 0)) none (some (.int .i64 0)) none=some (.slice i 0 0 (.unk 0)):=by
 simp only[jaO,hg];rw[if_pos ⟨trivial,by simp,by omega⟩];rw[jcE (a:=0) (b:=0) (c:=n) rfl rfl rfl (by omega)];simp
theorem jqp(hC:Has C TA){n:Nat}(hn:1<=n/\n<=1073741824):ACalls C 56 [.nilslice,.int .i64 n] h (fun r h'=>GrwI h h' r []):=by
 have es:jaO (h.push (.cells (List.replicate n (.int .i64 0)) true 1)) 1 (.slice h.size 0 n (.unk 0)) none (some (.int .i64 0)) none=some (.slice h.size 0 0 (.unk 0)):=joO (get_push_eq rfl) (by simp);refine zf 56 B56 hC ?_;simp only[B56,zB];simp-implicitDefEqProofs (disch:=first|exact zd|fail) only[↓wpPre,jbx,jby,Int.reduceToNat,Int.reducePow,Int.reduceMul,Int.reduceAdd,Int.reduceSub,Int.reduceNeg,Nat.reduceAdd,Nat.reduceMul,Nat.reducePow,Int.reduceLT,Int.reduceLE,Int.reduceEq,Nat.reduceEqDiff,show capA .nilslice=some (.int .i64 0)from rfl,show jaO h 1 .nilslice none (some (.int .i64 0)) none=some .nilslice from rfl,ji6,jqo,Int.sub_zero,es]
 exact⟨kac _ _,by simp[ints],by simp,.inr ⟨h.size,List.replicate n (.int .i64 0),Nat.le_refl _,rfl,by rw[get_push_eq rfl];simp[ints]⟩⟩
def flatP(ps:List (AV×List Int)):List Int:=(ps.map (·.2)).flatten
theorem jgz{ps:List (AV×List Int)}{i:Nat}(h:i<ps.length):flatP (ps.take (i+1))=flatP (ps.take i)++(ps.getD i default).2:=by
 unfold flatP;rw[List.take_add_one,List.getElem?_eq_getElem h,Option.toList_some,List.map_append,List.flatten_append,List.getD_eq_getElem?_getD,List.getElem?_eq_getElem h];simp
theorem jkg{ps:List (AV×List Int)}(i:Nat):(flatP (ps.take i)).length<=(flatP ps).length:=by
 have:flatP ps=flatP (ps.take i)++flatP (ps.drop i):=by
  unfold flatP;rw[<-List.flatten_append,<-List.map_append,List.take_append_drop]
 rw[this,List.length_append];omega
theorem jmJ(hC:Has C TA){ps:List (AV×List Int)}{j u:Nat}{wr:Bool}{c:Cap}{h:Heap}(hg:h.get j=some (.cells (ps.map (·.1)) wr u))(hp:∀p∈ps,RI h p.1 p.2/\1<=p.2.length)(hl:1<=ps.length/\ps.length<=1000000)(hb:(flatP ps).length<=1073741824):
  ACalls C 47 [.slice j 0 ps.length c] h (fun r h'=>GrwI h h' r (flatP ps)):=by
 have gp:∀i,i<ps.length->ps.getD i default∈ps:=fun i hi=>by rw[List.getD_eq_getElem?_getD,List.getElem?_eq_getElem hi];exact List.getElem_mem hi
 have gi:∀i,i<ps.length->(ps.map (·.1))[i]? =some (ps.getD i default).1:=fun i hi=>by simp[hi]
 have hj:=kab hg;have hpos:1<=(flatP ps).length:=by
  have h1:=jgz (ps:=ps) (i:=0) (by omega);have h2:=jkg (ps:=ps) 1;have h3:=(hp _ (gp 0 (by omega))).2;rw[h1,List.length_append]at h2;omega
 refine zf 47 B47 hC ?_;simp only[B47,zB];refine zs ?_;refine jae (fun m t h'=>h'=h/\t 0=.slice j 0 ps.length c/\t 9=.slice j 0 ps.length c/\t 10=.int .i64 ps.length/\∃i:Nat,t 3=.int .i64 (flatP (ps.take i)).length/\t 11=.int .i64 (i:Nat)/\i<=ps.length/\m=ps.length-i) (j0:=ps.length) ⟨rfl,rfl,rfl,rfl,0,by simp[flatP,argT,upd],rfl,by omega,rfl⟩ ?_;rintro m t h' ⟨hh,e0,e9,e10,i,e3,e11,hi,hm⟩;subst hh;refine zs2 e10 e11 ?_;refine kaf (fun c1=>?_) (fun c1=>?_)
 ·have hi':i<ps.length:=by omega
  have H:=hp _ (gp i hi');have hs:=jgz hi';have hle:=jkg (ps:=ps) (i+1);rw[hs,List.length_append]at hle;refine zs6 e9 e11 @hg gi @H.1.len e3 ?_;refine zs4 e0 e9 e10 e11 ?_;refine⟨_,⟨i+1,by rw[hs,List.length_append];simp,by simp,by omega,rfl⟩,by omega⟩
 ·have:i=ps.length:=by omega
  subst this;rw[List.take_length]at e3;refine zs1 e3 ?_;refine kad (jqp hC ⟨hpos,hb⟩) ?_;rintro r h1 A;refine zs1 e0 ?_;refine jae (fun m t hx=>t 25=.slice j 0 ps.length c/\t 26=.int .i64 ps.length/\∃(i:Nat),GrwI h' hx (t 6) (flatP (ps.take i))/\t 27=.int .i64 (i:Nat)/\i<=ps.length/\m=ps.length-i) (j0:=ps.length) ⟨rfl,rfl,0,A,rfl,by omega,rfl⟩ ?_;rintro m t h2 ⟨e25,e26,i,A2,e27,hi,hm⟩;refine zs2 e26 e27 ?_;refine kaf (fun c1=>?_) (fun c1=>?_)
  ·have hi':i<ps.length:=by omega
   have H:=hp _ (gp i hi');have hs:=jgz hi';have hle:=jkg (ps:=ps) (i+1);rw[hs,List.length_append]at hle;have hc:=(H.1.mono A2.sub).content;have hg2:=(A2.sub.get j hj).trans hg;have ha:=kaQ (bytes:=8) (m:=(ps.getD i default).2.length) (news:=ints (ps.getD i default).2) A2 (kag _) (by omega) (by omega) jkc;refine zs7 e25 e26 e27 hg2 gi hc ha ?_;have hsn:=kaH (m:=(ps.getD i default).2.length) (news:=ints (ps.getD i default).2) A2 (kag _) (by simp[ints]) (by omega);rw[jfo,<-hs]at hsn;rw[jfo,<-hs];refine⟨_,⟨i+1,?_,by simp,by omega,rfl⟩,by omega⟩;unfold GrwI
   rw[hs,List.length_append,<-hs];exact hsn
  ·have:i=ps.length:=by omega
   subst this;rw[List.take_length]at A2;refine zs ?_;exact A2
def bsum(f:Nat->Nat):Nat->Nat
 |0=>0
 |n+1=>bsum f n+f n
theorem jgA{f g:Nat->Nat}:∀n,(∀i,i<n->f i=g i)->bsum f n=bsum g n
 |0,_=>rfl
 |n+1,h=>by simp only[bsum];rw[jgA n (fun i hi=>h i (by omega)),h n (by omega)]
theorem jnV(f:Nat->Nat)(a:Nat):∀b,bsum f (a+b)=bsum f a+bsum (fun i=>f (a+i)) b
 |0=>rfl
 |b+1=>by rw[<-Nat.add_assoc];simp only[bsum];rw[jnV f a b];omega
theorem jnW{f g:Nat->Nat}{t d:Nat}:∀n,(∀i,i<n->f i=g i+if i=t then d else 0)->bsum f n=bsum g n+if t<n then d else 0
 |0,_=>by simp[bsum]
 | n + 1, h => by
  have ih:=jnW n (fun i hi=>h i (by omega));have h1:=h n (by omega);simp only[bsum,ih,h1];by_cases c:t<n
  ·rw[if_pos c,if_neg (by omega),if_pos (by omega)];omega
  ·by_cases c2:n=t
   ·rw[if_neg c,if_pos c2,if_pos (by omega)];omega
   ·rw[if_neg c,if_neg c2,if_neg (by omega)];omega
def bitN(x i:Nat):Nat:=(x.testBit i).toNat
def pop(x n:Nat):Nat:=bsum (bitN x) n
theorem jmK(x a b:Nat):pop x (a+b)=pop x a+pop (x>>>a) b:=by
 unfold pop;rw[jnV];congr 1;refine jgA _ fun i _=>?_;simp[bitN,Nat.testBit_shiftRight]
theorem jqq(x n:Nat):pop (x% 2^n) n=pop x n:=by
 refine jgA _ fun i hi=>?_;simp[bitN,Nat.testBit_mod_two_pow,hi]
def bit01(l:List Int):Prop:=∀x∈l,x=0\/x=1
theorem bit01.get{l:List Int}(h:bit01 l)(i:Nat):l.getD i 0=0\/l.getD i 0=1:=by
 by_cases hi:i<l.length
 ·exact h _ (jam hi)
 ·left;rw[List.getD_eq_getElem?_getD,List.getElem?_eq_none (by omega)];rfl
def packL:List Int->Nat
 |[]=>0
 |b::l=>b.toNat+2*packL l
theorem jhq:∀{l:List Int},bit01 l->packL l<2^l.length
 |[],_=>by simp[packL]
 |b::l,h=>by
  have ih:=jhq (l:=l) (fun x hx=>h x (List.mem_cons_of_mem _ hx));have hb:=h b List.mem_cons_self;simp only[packL,List.length_cons,Nat.pow_succ];rcases hb with rfl|rfl<;>simp<;>omega
theorem jib:∀{l:List Int},bit01 l->∀i,bitN (packL l) i=(l.getD i 0).toNat
 |[],_,i=>by simp[packL,bitN]
 |b::l,h,0=>by
  have hb:=h b List.mem_cons_self;simp only[packL,bitN,Nat.testBit_zero,List.getD_cons_zero];rcases hb with rfl|rfl<;>simp<;>omega
 |b::l,h,i+1=>by
  have ih:=jib (l:=l) (fun x hx=>h x (List.mem_cons_of_mem _ hx)) i;have hb:=h b List.mem_cons_self;have e:(b.toNat+2*packL l)/2=packL l:=by rcases hb with rfl|rfl<;>simp<;>omega
  simp only[packL,bitN,Nat.testBit_succ,List.getD_cons_succ];rw[e];exact ih
theorem jgB:∀(l:List Int) (x:Int),packL (l++[x])=packL l+2^l.length*x.toNat
 |[],x=>by simp[packL]
 |b::l,x=>by
  simp only[List.cons_append,packL,jgB l x,List.length_cons,Nat.pow_succ];rw[Nat.mul_add,Nat.mul_comm _ 2,Nat.mul_assoc,<-Nat.add_assoc]
def xorT(ts:List Int)(w:List Int):Int:=ts.foldl (fun x t=>(x+w.getD t.toNat 0)% 2) 0
def maskT(ts:List Int):Nat:=ts.foldl (fun m t=>m|||2^t.toNat) 0
theorem jlz(ts:List Int)(t:Int)(w:List Int):xorT (ts++[t]) w=(xorT ts w+w.getD t.toNat 0)% 2:=by simp[xorT]
theorem jjt(ts:List Int)(t:Int):maskT (ts++[t])=maskT ts|||2^t.toNat:=by simp[maskT]
theorem jkh(ts:List Int)(w:List Int):xorT ts w=0\/xorT ts w=1:=by
 unfold xorT
 suffices ∀a:Int,(a=0\/a=1)->(ts.foldl (fun x t=>(x+w.getD t.toNat 0)% 2) a=0\/ts.foldl (fun x t=>(x+w.getD t.toNat 0)% 2) a=1)from this 0 (.inl rfl)
 induction ts with
 |nil=>intro a ha;exact ha
 |cons t ts ih=>intro a ha;exact ih _ (by dsimp only;omega)
theorem jlA:∀(ts:List Int) (m j:Nat),(ts.foldl (fun m t=>m|||2^t.toNat) m).testBit j=(m.testBit j||ts.any fun t=>t.toNat==j)
 |[],m,j=>by simp
 |t::ts,m,j=>by
  simp only[List.foldl_cons,jlA ts,Nat.testBit_or,Nat.testBit_two_pow,List.any_cons];rw[Bool.or_assoc];rfl
def tapOk(n:Int)(l:List Int)(j:Nat):Prop:=(if j=0 then-1 else l.getD (j-1) 0)<l.getD j 0/\l.getD j 0<n
instance (n:Int) (l:List Int) (j:Nat):Decidable (tapOk n l j):=by unfold tapOk;infer_instance
theorem jki{n:Int}{l:List Int}(h:∀j,j<l.length->tapOk n l j):∀(j i:Nat),i<j->j<l.length->l.getD i 0<l.getD j 0
 |0,i,hi,_=>by omega
 | j + 1, i, hi, hj => by
  have h1:=(h (j+1) hj).1;rw[if_neg (by omega),show j+1-1=j by omega]at h1;rcases Nat.lt_or_ge i j with x|x
  ·have:=jki h j i x (by omega);omega
  ·have:i=j:=by omega
   subst this;exact h1
theorem jeT{n:Int}{l:List Int}(h:∀j,j<l.length->tapOk n l j){j:Nat}(hj:j<l.length):0<=l.getD j 0:=by
 have h0:=(h 0 (by omega)).1;rw[if_pos rfl]at h0;rcases Nat.eq_zero_or_pos j with e|e
 ·subst e;omega
 ·have:=jki h j 0 e hj;omega
theorem jqr{n:Int}{l:List Int}(h:∀j,j<l.length->tapOk n l j){i:Nat}(hi:i<l.length):(maskT (l.take i)).testBit (l.getD i 0).toNat=false:=by
 unfold maskT;rw[jlA];simp only[Nat.zero_testBit,Bool.false_or];refine List.any_eq_false.2 fun t ht=>?_;obtain⟨j,hj,rfl⟩:=List.mem_take_iff_getElem.1 ht;have hj':j<l.length:=by omega
 have e:l[j]=l.getD j 0:=by simp[hj']
 have h1:=jki h i j (by omega) hi;have h2:=jeT h hj';rw[e];simp only[beq_iff_eq];omega
theorem jkj{n:Nat}:∀(ts:List Int) (m:Nat),m<2^n->(∀t∈ts,t.toNat<n)->ts.foldl (fun m t=>m|||2^t.toNat) m<2^n
 |[],m,h,_=>h
 |t::ts,m,h,ht=>jkj ts _ (Nat.or_lt_two_pow h (Nat.pow_lt_pow_right (by decide) (ht t List.mem_cons_self))) (fun x hx=>ht x (List.mem_cons_of_mem _ hx))
theorem jnX{n:Int}{l w:List Int}(hn:n<=32)(h:∀j,j<l.length->tapOk n l j)(hw:bit01 w):∀i,i<=l.length->((pop (packL w&&&maskT (l.take i)) 32% 2:Nat):Int)=xorT (l.take i) w
 | 0, _ => by
  have e:packL w&&&0=0:=Nat.and_zero _;have:∀k,pop 0 k=0:=fun k=>by
   unfold pop
   induction k with
   |zero=>rfl
   |succ k ih=>simp[bsum,ih,bitN]
  simp[maskT,xorT,this]
 | i + 1, hi => by
  have ih:=jnX hn h hw i (by omega);have hm:=jqr h (i:=i) (by omega);have ht:=(h i (by omega)).2;have ht0:=jeT h (j:=i) (by omega);have hb:=jib hw (l.getD i 0).toNat;rw[jap (by omega),jjt,jlz];have key:pop (packL w&&&(maskT (l.take i)|||2^(l.getD i 0).toNat)) 32=pop (packL w&&&maskT (l.take i)) 32+if(l.getD i 0).toNat<32 then bitN (packL w) (l.getD i 0).toNat else 0:=by
   refine jnW 32 fun j _=>?_;simp only[bitN,Nat.testBit_and,Nat.testBit_or,Nat.testBit_two_pow];by_cases e:j=(l.getD i 0).toNat
   ·rw[if_pos e,<-e,e,hm];simp
   ·rw[if_neg e,decide_eq_false (Ne.symm e)];simp
  rw[key,if_pos (by omega),hb];have hx:=jkh (l.take i) w;have hy:=hw.get (l.getD i 0).toNat;omega
def stepW(ts w:List Int):List Int:=w.tail++[xorT ts w]
def winW(ts w:List Int):Nat->List Int
 |0=>w
 |k+1=>stepW ts (winW ts w k)
def seqB(ts w:List Int)(k:Nat):Int:=(winW ts w k).getD 0 0
def runL(ts w:List Int)(m:Nat):List Int:=(List.range m).map (seqB ts w)
theorem jb0(ts w:List Int)(m:Nat):(runL ts w m).length=m:=by simp[runL]
theorem jnY{w:List Int}{k:Nat}(h:k<m):(runL ts w m).getD k 0=seqB ts w k:=by simp[runL,h]
theorem jic(ts w:List Int)(m:Nat):runL ts w (m+1)=runL ts w m++[seqB ts w m]:=by simp[runL,List.range_succ]
theorem jqs{w:List Int}{k:Nat}(h:k<=m):(runL ts w m).take k=runL ts w k:=by simp[runL,<-List.map_take,List.take_range,Nat.min_eq_left h]
theorem jcq{ts w:List Int}(h:1<=w.length):∀k,(winW ts w k).length=w.length
 |0=>rfl
 |k+1=>by simp[winW,stepW,jcq h k];omega
theorem jeD{ts w:List Int}(h:bit01 w):∀k,bit01 (winW ts w k)
 |0=>h
 |k+1=>fun x hx=>by
  simp only[winW,stepW,List.mem_append,List.mem_singleton]at hx;rcases hx with hx|rfl
  ·exact jeD h k x (List.mem_of_mem_tail hx)
  ·exact jkh _ _
theorem jsc(w:List Int)(i:Nat):w.tail.getD i 0=w.getD (i+1) 0:=by cases w<;>simp
theorem jhr{ts w:List Int}(h:1<=w.length):∀(i k:Nat),i<w.length->(winW ts w k).getD i 0=seqB ts w (k+i)
 |0,k,_=>rfl
 | i + 1, k, hi => by
  have ih:=jhr (ts:=ts) h i (k+1) (by omega);have e:(winW ts w (k+1)).getD i 0=(winW ts w k).getD (i+1) 0:=by
   have hl:=jcq (ts:=ts) h k;have ht:(winW ts w k).tail.length=w.length-1:=by simp[hl]
   rw[<-jsc];simp only[winW,stepW,List.getD_eq_getElem?_getD];rw[List.getElem?_append_left (by omega)]
  rw[<-e,ih,show k+1+i=k+(i+1)by omega]
theorem jqt{w:List Int}(h:1<=w.length)(k:Nat):seqB ts w (k+w.length)=xorT ts (winW ts w k):=by
 have h1:=jhr (ts:=ts) h (w.length-1) (k+1) (by omega);rw[show k+1+(w.length-1)=k+w.length by omega]at h1;rw[<-h1];have hl:=jcq (ts:=ts) h k;simp only[winW,stepW,List.getD_eq_getElem?_getD];have ht:(winW ts w k).tail.length=w.length-1:=by simp[hl]
 rw[List.getElem?_append_right (by omega),ht,Nat.sub_self];rfl
theorem jmL{w:List Int}(h:bit01 w)(k:Nat):seqB ts w k=0\/seqB ts w k=1:=(jeD h k).get 0
theorem jtO{a b:List Int}(hl:a.length=b.length)(h:∀i,i<a.length->a.getD i 0=b.getD i 0):a=b:=by
 refine List.ext_getElem hl fun i h1 h2=>?_;have:=h i h1;simpa[h1,h2]using this
theorem joP{w:List Int}(h:1<=w.length):runL ts w w.length=w:=by
 refine jtO (by simp[runL]) fun i hi=>?_;rw[jb0]at hi;rw[jnY hi,<-Nat.zero_add i,<-jhr (ts:=ts) h i 0 hi,Nat.zero_add];rfl
theorem joQ{w:List Int}(h:1<=w.length)(hw:bit01 w):packL (stepW ts w)=packL w/2+2^(w.length-1)*(xorT ts w).toNat:=by
 unfold stepW;rw[jgB]
 match w,h with
 |b::w,_=>
  have hb:=hw b List.mem_cons_self;simp only[List.tail_cons,List.length_cons,packL,Nat.add_sub_cancel];congr 1;rcases hb with rfl|rfl<;>simp<;>omega
def popTab:List Nat:=[0,1,1,2,1,2,2,3,1,2,2,3,2,3,3,4,1,2,2,3,2,3,3,4,2,3,3,4,3,4,4,5,1,2,2,3,2,3,3,4,2,3,3,4,3,4,4,5,2,3,3,4,3,4,4,5,3,4,4,5,4,5,5,6,1,2,2,3,2,3,3,4,2,3,3,4,3,4,4,5,2,3,3,4,3,4,4,5,3,4,4,5,4,5,5,6,2,3,3,4,3,4,4,5,3,4,4,5,4,5,5,6,3,4,4,5,4,5,5,6,4,5,5,6,5,6,6,7,1,2,2,3,2,3,3,4,2,3,3,4,3,4,4,5,2,3,3,4,3,4,4,5,3,4,4,5,4,5,5,6,2,3,3,4,3,4,4,5,3,4,4,5,4,5,5,6,3,4,4,5,4,5,5,6,4,5,5,6,5,6,6,7,2,3,3,4,3,4,4,5,3,4,4,5,4,5,5,6,3,4,4,5,4,5,5,6,4,5,5,6,5,6,6,7,3,4,4,5,4,5,5,6,4,5,5,6,5,6,6,7,4,5,5,6,5,6,6,7,5,6,6,7,6,7,7,8]
theorem jlB:∀i,i<256->popTab[i]? =some (pop i 8)/\pop i 8<=8:=by
 have h:∀i:Fin 256,popTab[i.val]? =some (pop i.val 8)/\pop i.val 8<=8:=by decide+kernel
 exact fun i hi=>h ⟨i,hi⟩
theorem jkk(x:Nat):pop x 8<=8:=by
 rw[<-jqq];exact(jlB _ (Nat.mod_lt _ (by decide))).2
theorem jtP:B102=((.mk 1 21 [(.tmp 2)] (.seq (.region [⟨(some 2),(.mv (.const (.int .i64 0))),none⟩]) (.seq (.draw 0 [⟨0,false,[],⟨(some 3),(.mv (.tmp 0)),none⟩⟩,⟨1,false,[],⟨(some 4),(.bin .shr (.tmp 3) (.const (.int .u64 24))),none⟩⟩,⟨2,false,[],⟨(some 5),(.strIdx (.const (.str popTab)) (.tmp 4)),none⟩⟩,⟨3,false,[],⟨(some 6),(.mv (.tmp 0)),none⟩⟩,⟨4,false,[],⟨(some 7),(.bin .shr (.tmp 6) (.const (.int .u64 16))),none⟩⟩,⟨5,false,[],⟨(some 8),(.bin .and (.tmp 7) (.const (.int .u32 255))),none⟩⟩,⟨6,false,[],⟨(some 9),(.strIdx (.const (.str popTab)) (.tmp 8)),none⟩⟩,⟨7,false,[],⟨(some 10),(.bin .add (.tmp 5) (.tmp 9)),none⟩⟩,⟨8,false,[],⟨(some 11),(.mv (.tmp 0)),none⟩⟩,⟨9,false,[],⟨(some 12),(.bin .shr (.tmp 11) (.const (.int .u64 8))),none⟩⟩,⟨10,false,[],⟨(some 13),(.bin .and (.tmp 12) (.const (.int .u32 255))),none⟩⟩,⟨11,false,[],⟨(some 14),(.strIdx (.const (.str popTab)) (.tmp 13)),none⟩⟩,⟨12,false,[],⟨(some 15),(.bin .add (.tmp 10) (.tmp 14)),none⟩⟩,⟨13,false,[],⟨(some 16),(.mv (.tmp 0)),none⟩⟩,⟨14,false,[],⟨(some 17),(.bin .and (.tmp 16) (.const (.int .u32 255))),none⟩⟩,⟨15,false,[],⟨(some 18),(.strIdx (.const (.str popTab)) (.tmp 17)),none⟩⟩,⟨16,false,[],⟨(some 19),(.bin .add (.tmp 15) (.tmp 18)),none⟩⟩,⟨17,false,[],⟨(some 20),(.conv .i64 (.tmp 19)),none⟩⟩,⟨18,false,[],⟨(some 2),(.mv (.tmp 20)),none⟩⟩]) .ret)))):=rfl
def strA(x i:AV):Option AV:=
 match x,i with
 | .str bs, .int _ k => if 0 <= k then match bs[k.toNat]? with
   |some b=>if b<256 then some (.int .u8 b)else none
   |none=>none
  else none
 |_,_=>none
theorem joR{nid:Option Nat}{ev:AOpd->AV}{h:Heap}{K:AV->Heap->Prop}{x i}: @opR nid (.strIdx x i) ev h ⟨K⟩=@opt1 (strA (ev x) (ev i)) h ⟨K⟩:=by
 simp only[opR,aOp,pureA,opt1];cases ev x<;>cases ev i<;>simp only[strA,Option.map_none];rename_i bs kk k;by_cases c:0<=k
 ·simp only[if_pos c];cases bs[k.toNat]? with
  |none=>rfl
  |some b=>
   by_cases c2:b<256
   ·simp only[if_pos c2];rfl
   ·simp only[if_neg c2];rfl
 ·simp only[if_neg c];rfl
theorem jtQ{i:Int}{k:IntKind}(h:0<=i/\i<256):strA (.str popTab) (.int k i)=some (.int .u8 (pop i.toNat 8:Nat)):=by
 have h1:=jlB i.toNat (by omega);simp only[strA,if_pos h.1,h1.1];rw[if_pos (by omega)]
theorem nat32{n:Nat}(h:n<4294967296):(BitVec.ofInt 32 (n:Int)).toNat=n:=by
 rw[BitVec.toNat_ofInt];have:((n:Int)% ((2^32:Nat):Int)).toNat=n:=by
  rw[Int.emod_eq_of_lt (by omega) (by omega)];simp
 exact this
theorem jmM{n:Nat}(hm:m<4294967296)(hn:n<4294967296):bitsA .and .u32 (m:Int) (n:Int)=((m&&&n:Nat):Int):=by
 show IntKind.u32.wrap ((BitVec.ofInt 32 (m:Int)&&&BitVec.ofInt 32 (n:Int)).toNat:Int)=_;rw[BitVec.toNat_and,nat32 hm,nat32 hn];have:m&&&n<=m:=Nat.and_le_left;exact w_u32 (by omega)
theorem jqu{n:Nat}(hm:m<4294967296)(hn:n<4294967296):bitsA .or .u32 (m:Int) (n:Int)=((m|||n:Nat):Int):=by
 show IntKind.u32.wrap ((BitVec.ofInt 32 (m:Int)|||BitVec.ofInt 32 (n:Int)).toNat:Int)=_;rw[BitVec.toNat_or,nat32 hm,nat32 hn];have:m|||n<2^32:=Nat.or_lt_two_pow (by omega) (by omega);exact w_u32 (by omega)
theorem juw{a:Int}(h:0<=a/\a<4294967296):bitsA .and .u32 a 255=a% 256:=by
 obtain⟨n,rfl⟩:=Int.eq_ofNat_of_zero_le h.1;have:=jmM (m:=n) (n:=255) (by omega) (by decide);have e:n&&&255=n% 256:=Nat.and_two_pow_sub_one_eq_mod n 8;rw[e]at this;rw[show((255:Nat):Int)=255 from rfl]at this;rw[this];omega
theorem pop32(x:Nat):pop x 32=pop (x/16777216) 8+pop (x/65536% 256) 8+pop (x/256% 256) 8+pop (x% 256) 8:=by
 have e1:pop x 32=pop x 8+pop (x>>>8) 24:=jmK x 8 24;have e2:pop (x>>>8) 24=pop (x>>>8) 8+pop (x>>>8>>>8) 16:=jmK _ 8 16;have e3:pop (x>>>8>>>8) 16=pop (x>>>8>>>8) 8+pop (x>>>8>>>8>>>8) 8:=jmK _ 8 8;have m:∀y,pop (y% 256) 8=pop y 8:=fun y=>jqq y 8;rw[m,m,m,e1,e2,e3];simp only[Nat.shiftRight_eq_div_pow,Nat.div_div_eq_div_mul,Nat.reducePow,Nat.reduceMul];omega
theorem ji7(hC:Has C TA){x:Nat}(hx:x<4294967296):ACalls C 102 [.int .u32 (x:Nat)] h (fun r h'=>r=.int .i64 (pop x 32:Nat)/\h'=h):=by
 rw[pop32];have a1:=jkk (x/16777216);have a2:=jkk (x/65536% 256);have a3:=jkk (x/256% 256);have a4:=jkk (x% 256);have t1:((x:Int)/16777216).toNat=x/16777216:=by omega
 have t2:((x:Int)/65536% 256).toNat=x/65536% 256:=by omega
 have t3:((x:Int)/256% 256).toNat=x/256% 256:=by omega
 have t4:((x:Int)% 256).toNat=x% 256:=by omega
 refine jd7 (hC.body (by decide) (by rfl:tab 102=some B102)) (Nat.le_of_ble_eq_true rfl) ?_;show wp C _ none B102.code _ _;simp only[jtP];refine zs7 @joR @jtQ @juw t1 t2 t3 t4 ?_;omega
theorem jju(hC:Has C TA){l:List Int}{x:Int}(hl:RI h v l):ACalls C 99 [v,.int .i64 x] h (fun r h'=>r=.int .i64 (idxI (fun y=>x==y) l)/\h'=h):=by
 have hlt:=hl.lt;refine zf 99 B99 hC ?_;simp only[B99,zB];refine zs1 @hl.len ?_;refine jae (fun j t h'=>h'=h/\t 0=v/\t 1=.int .i64 x/\t 7=.int .i64 l.length/\∃i:Nat,t 8=.int .i64 (i:Nat)/\i<=l.length/\(l.take i).any (fun y=>x==y)=false/\j=l.length-i) ⟨rfl,rfl,rfl,rfl,0,rfl,by omega,by simp,rfl⟩ ?_;rintro j t h' ⟨hh,e0,e1,e7,i,e8,hi,hp,hj⟩;subst hh;refine zs2 e7 e8 ?_;refine kaf (fun c1=>?_) (fun c1=>?_)
 ·have hi':i<l.length:=by omega
  refine zs5 e0 e1 e8 @hl.idx @hl.load ?_;refine kaf (fun c2=>?_) (fun c2=>?_)
  ·have:=jgy hi' hp (by simpa using c2);simp-implicitDefEqProofs (disch:=first|exact zd|fail) only[↓wpPre,jbx,jby,Int.reduceToNat,Int.reducePow,Int.reduceMul,Int.reduceAdd,Int.reduceSub,Int.reduceNeg,Nat.reduceAdd,Nat.reduceMul,Nat.reducePow,Int.reduceLT,Int.reduceLE,Int.reduceEq,Nat.reduceEqDiff,idxI,if_pos this.1,this.2]
  ·refine zs4 e0 e1 e7 e8 ?_;exact⟨_,⟨i+1,by simp,by omega,jfZ hi' hp (by simpa using c2),rfl⟩,by omega⟩
 ·have:i=l.length:=by omega
  subst this;rw[List.take_of_length_le (Nat.le_refl _)]at hp;refine zs2 @idxI.eq_1 hp ?_;simp
theorem jbD(hC:Has C TA){l:List Int}{x:Int}(hl:RI h v l):ACalls C 89 [v,.int .i64 x] h (fun r h'=>r=.bool (l.any fun y=>x==y)/\h'=h):=by
 refine zf 89 B89 hC ?_;simp only[B89,zB];refine zs ?_;refine kaa (jju hC hl) (zs ?_);cases hx:l.any (fun y=>x==y)with
 |true=>simp[jd9,hx]
 |false=>simp[jd9,hx]
def jfq(n:Int)(ts w:List Int):Prop:=(1<=ts.length/\ts.getD 0 0=0/\∀j,j<ts.length->tapOk n ts j)/\(w.length:Int)=n/\(w.any fun x=> !(x==0||x==1))=false
instance (n:Int) (ts w:List Int):Decidable (jfq n ts w):=by unfold jfq;infer_instance
def jdL(n:Int)(ts w:List Int):Int:=if n<2\/16<n then 2 else if jfq n ts w then 0 else 3
structure RegOk (n:Nat) (ts w:List Int):Prop where
 n2:2<=n
 n16:n<=16
 len:w.length=n
 bits:bit01 w
 t1:1<=ts.length
 t0:ts.getD 0 0=0
 taps:∀j,j<ts.length->tapOk n ts j
theorem jlC{n:Int}{w:List Int}(h:jdL n ts w=0):∃m:Nat,n=m/\RegOk m ts w:=by
 unfold jdL at h;split at h
 ·cases h
 ·split at h
  ·rename_i h1 h2;refine⟨w.length,h2.2.1.symm,?_⟩;obtain⟨⟨a1,a2,a3⟩,b1,b2⟩:=h2;refine⟨by omega,by omega,rfl,fun x hx=>?_,a1,a2,by rw[b1];exact a3⟩;have:=List.any_eq_false.1 b2 x hx;simp only[Bool.not_eq_true,Bool.not_eq_false',Bool.or_eq_true,beq_iff_eq]at this;exact this
  ·cases h
def madeR(n:Int)(ts w:List Int):AV:=if jdL n ts w=0 then .tuple [.agg [.int .i64 n,.int .u32 (packL w),.int .u32 (maskT ts)],.int .i64 0]else .tuple [.agg [.int .i64 0,.int .u32 0,.int .u32 0],.int .i64 (jdL n ts w)]
theorem jf0{k:Nat}(h:k<=16):2^k<=65536:=Nat.pow_le_pow_right (by decide) h
theorem jkl(k:Nat):(2:Int)^k=((2^k:Nat):Int):=by simp
theorem jkm{n:Nat}(h:∀j,j<ts.length->tapOk n ts j)(i:Nat):maskT (ts.take i)<2^n:=by
 refine jkj _ _ Nat.one_le_two_pow (fun t ht=>?_);obtain⟨j,hj,rfl⟩:=List.mem_take_iff_getElem.1 ht;have hj':j<ts.length:=by omega
 have h1:=(h j hj').2;have h2:=jeT h hj';have e:ts[j]=ts.getD j 0:=by simp[hj']
 rw[e];omega
theorem jlD(hC:Has C TA){n:Int}{v1 v2:AV}{w:List Int}(h1:RI h v1 ts)(h2:RI h v2 w):ACalls C 92 [.int .i64 n,v1,v2] h (fun r h'=>r=madeR n ts w/\h'=h):=by
 have l1:=h1.lt;have l2:=h2.lt;refine kae (P:=fun r h'=>r=madeR n ts w/\HSub h h') ?_ (fun r h' hp=>⟨by rw[hp.1];unfold madeR;split<;>exact jcX (by simp[AV.free,AV.bel,kar]),hp.2,hp.1,rfl⟩);have pe:jdL n ts w=if n<2\/16<n then 2 else if jfq n ts w then 0 else 3:=rfl
 have fin:∀e,jdL n ts w=e->e≠0->AV.tuple [.agg [.int .i64 0,.int .u32 0,.int .u32 0],.int .i64 e]=madeR n ts w:=fun e h0 he=>by unfold madeR;rw[if_neg (by rw[h0];exact he),h0]
 by_cases c0:n<2\/16<n
 ·rw[if_pos c0]at pe;refine zf 92 B92 hC ?_;simp only[B92,zB];refine zs ?_
  (repeat' (first|(refine kaf (fun _=>?_) (fun _=>?_))|(refine zs ?_)))
  all_goals first|exact⟨fin 2 pe (by decide),(kac _ _)⟩|omega
 rw[if_neg c0]at pe;by_cases c1:ts.length=0
 ·rw[if_neg (fun hg=>by have:=hg.1.1;omega)]at pe;refine zf 92 B92 hC ?_;simp only[B92,zB];refine zs1 @h1.len ?_;exact⟨fin 3 pe (by decide),(kac _ _)⟩
 by_cases c2:ts.getD 0 0≠0
 ·rw[if_neg (fun hg=>c2 hg.1.2.1)]at pe;refine zf 92 B92 hC ?_;simp only[B92,zB];refine zs3 @h1.len @h1.idx @h1.loadC ?_;exact⟨fin 3 pe (by decide),(kac _ _)⟩
 by_cases c3:(w.length:Int)≠n
 ·rw[if_neg (fun hg=>c3 hg.2.1)]at pe;refine zf 92 B92 hC ?_;simp only[B92,zB];refine zs4 @h1.len @h1.idx @h1.loadC @h2.len ?_;exact⟨fin 3 pe (by decide),(kac _ _)⟩
 have c2':ts.getD 0 0=0:=Decidable.not_not.1 c2;have c3':(w.length:Int)=n:=Decidable.not_not.1 c3;have hz:RI (h.push (.cells [.int .i64 0,.int .u32 0,.int .u32 0] true 0)) v1 ts:=h1.mono (kac _ _);refine zf 92 B92 hC ?_;simp only[B92,zB];refine zs5 @h1.len @h1.idx @h1.loadC @h2.len c2' ?_;refine jae (fun j t h'=>∃i:Nat,h'=(h.push (.cells [.int .i64 0,.int .u32 0,.int .u32 0] true 0)).push (.cells [.int .i64 n,.int .u32 0,.int .u32 (maskT (ts.take i):Nat)] true 0)/\t 0=.int .i64 n/\t 2=v2/\t 6=.ptr h.size 0/\t 8=.ptr (h.size+1) 0/\t 9=.int .i64 (if i=0 then-1 else ts.getD (i-1) 0)/\
   t 39=v1/\t 40=.int .i64 ts.length/\t 41=.int .i64 (i:Nat)/\i<=ts.length/\(∀q,q<i->tapOk n ts q)/\j=ts.length-i) (j0:=ts.length)
  ⟨0,rfl,rfl,rfl,rfl,rfl,rfl,rfl,rfl,rfl,by omega,by omega,rfl⟩ ?_
 rintro j t h' ⟨i,rfl,e0,e2,e6,e8,e9,e39,e40,e41,hi,hok,hj⟩;refine zs2 e40 e41 ?_;refine kaf (fun c=>?_) (fun c=>?_)
 ·have hi':i<ts.length:=by omega
  have hsub:HSub h ((h.push (.cells [.int .i64 0,.int .u32 0,.int .u32 0] true 0)).push (.cells [.int .i64 n,.int .u32 0,.int .u32 (maskT (ts.take i):Nat)] true 0)):=(kac _ _).push _;by_cases ct:tapOk n ts i
  ·have ct':=ct;unfold tapOk at ct';have t0:0<=ts.getD i 0:=by
    have h1:=ct'.1;by_cases h0:i=0
    ·rw[if_pos h0]at h1;omega
    ·rw[if_neg h0]at h1;have hp:∀j,j<=i-1-> -1<ts.getD j 0:=by
      intro j
      induction j with
      |zero=>intro _;omega
      |succ j ih=>
       intro hj;have:=(hok (j+1) (by omega)).1;rw[if_neg (by omega),show j+1-1=j by omega]at this;have:=ih (by omega);omega
     have:=hp (i-1) (Nat.le_refl _);omega
   have hm:maskT (ts.take i)<65536:=by
    have h1:=jkj (n:=16) (ts.take i) 0 (by decide) (fun x hx=>by
     obtain⟨q,hq,rfl⟩:=List.mem_take_iff_getElem.1 hx;have hq':q<ts.length:=by omega
     have h2:=(hok q (by omega)).2;have e:ts[q]=ts.getD q 0:=by simp[hq']
     rw[e];omega)
    exact h1
   have hpw:=jf0 (k:=(ts.getD i 0).toNat) (by omega);have ec:=jkl (ts.getD i 0).toNat;have em:maskT (ts.take (i+1))=maskT (ts.take i)|||2^(ts.getD i 0).toNat:=by rw[jap hi',jjt]
   have hor:=jqu (m:=maskT (ts.take i)) (n:=2^(ts.getD i 0).toNat) (by omega) (by omega);rw[<-em]at hor;have hlast:¬ts.getD i 0<=(if i=0 then-1 else ts.getD (i-1) 0):=by omega
   generalize hP:2^(ts.getD i 0).toNat=P at hpw ec hor;refine zs7 e0 e2 e6 e8 e9 e39 (zI e40 (zI e41 (zI @h1.idx (zI @h1.loadC (zI @Int.one_mul (zI ec hor)))))) ?_;exact⟨_,⟨i+1,rfl,by simp,by simp,by omega,fun q hq=>by
    by_cases e:q=i
    ·subst e;exact ct
    ·exact hok q (by omega),rfl⟩,by omega⟩
  ·have hbad:¬jfq n ts w:=fun hg=>ct (hg.1.2.2 i hi');rw[if_neg hbad]at pe;unfold tapOk at ct;by_cases cl:ts.getD i 0<=(if i=0 then-1 else ts.getD (i-1) 0)
   ·refine zs7 e0 e6 e9 e39 e41 @h1.idx @h1.loadC ?_;exact⟨fin 3 pe (by decide),(kac _ _).push _⟩
   ·refine zs7 e0 e6 e9 e39 e41 @h1.idx @h1.loadC ?_;exact⟨fin 3 pe (by decide),(kac _ _).push _⟩
 ·have:i=ts.length:=by omega
  subst this;rw[List.take_length];have hmm:(maskT ts:Int)=(maskT ts:Int):=rfl;refine zs2 e2 @h2.len ?_;refine jae (fun j u h'=>∃i:Nat,h'=(h.push (.cells [.int .i64 0,.int .u32 0,.int .u32 0] true 0)).push (.cells [.int .i64 n,.int .u32 (packL (w.take i):Nat),.int .u32 (maskT ts:Nat)] true 0)/\u 6=.ptr h.size 0/\u 8=.ptr (h.size+1) 0/\
   u 62=v2/\u 63=.int .i64 w.length/\u 64=.int .i64 (i:Nat)/\i<=w.length/\bit01 (w.take i)/\j=w.length-i) (j0:=w.length)
   ⟨0,rfl,e6,e8,rfl,rfl,rfl,by omega,fun x hx=>by simp at hx,rfl⟩ ?_
  rintro j u h' ⟨i,rfl,f6,f8,f62,f63,f64,hi,hbt,hj⟩;refine zs2 f63 f64 ?_;refine kaf (fun c=>?_) (fun c=>?_)
  ·have hi':i<w.length:=by omega
   by_cases cb:w.getD i 0=0\/w.getD i 0=1
   ·have hlt:=jhq hbt;have hl:(w.take i).length=i:=by simp;omega
    rw[hl]at hlt;have hpw:=jf0 (k:=i) (by omega);have ec:=jkl i;have hb1:bit01 (w.take (i+1)):=fun x hx=>by
     rw[jap hi']at hx;rcases List.mem_append.1 hx with hx|hx
     ·exact hbt x hx
     ·rw[List.mem_singleton.1 hx];exact cb
    have es:packL (w.take i)|||2^i*(w.getD i 0).toNat=packL (w.take (i+1)):=by
     rw[jap hi',jgB,hl,Nat.or_comm,<-Nat.two_pow_add_eq_or_of_lt hlt,Nat.add_comm]
    generalize hP:2^i=P at hlt hpw ec es;have e4:w.getD i 0*(P:Int)=((P*(w.getD i 0).toNat:Nat):Int):=by rcases cb with e|e<;>rw[e]<;>simp
    have e5:P*(w.getD i 0).toNat<=65536:=by rcases cb with e|e<;>rw[e]<;>simp<;>omega
    have hor:=jqu (m:=packL (w.take i)) (n:=P*(w.getD i 0).toNat) (by omega) (by omega);rw[es]at hor;have cb2:¬(w.getD i 0≠0/\w.getD i 0≠1):=by omega
    rcases cb with cb|cb
    ·refine zs7 f6 f8 f62 f63 f64 @h2.idx (zI @h2.loadC (zI ec (zI e4 hor))) ?_;exact⟨_,⟨i+1,rfl,by simp,by omega,hb1,rfl⟩,by omega⟩
    ·refine zs7 f6 f8 f62 f63 f64 @h2.idx (zI @h2.loadC (zI ec (zI e4 hor))) ?_;exact⟨_,⟨i+1,rfl,by simp,by omega,hb1,rfl⟩,by omega⟩
   ·have hbad:¬jfq n ts w:=fun hg=>by
     have:=List.any_eq_false.1 hg.2.2 _ (jam hi');simp only[Bool.not_eq_true,Bool.not_eq_false',Bool.or_eq_true,beq_iff_eq]at this;exact cb this
    rw[if_neg hbad]at pe;refine zs5 f6 f62 f64 @h2.idx @h2.loadC ?_;exact⟨fin 3 pe (by decide),(kac _ _).push _⟩
  ·have:i=w.length:=by omega
   subst this;rw[List.take_length]at hbt|-;have hgood:jfq n ts w:=⟨⟨by omega,c2',hok⟩,c3',List.any_eq_false.2 fun x hx=>by
    simp only[Bool.not_eq_true,Bool.not_eq_false',Bool.or_eq_true,beq_iff_eq];exact hbt x hx⟩
   rw[if_pos hgood]at pe;refine zs2 f6 f8 ?_;refine⟨by unfold madeR;rw[if_pos pe],?_⟩;exact(kac _ _).push _
theorem jtg(x:Nat):∀n,pop x n<=n
 |0=>Nat.le_refl _
 |n+1=>by
  have:=jtg x n;have h2:bitN x n<=1:=by unfold bitN;cases x.testBit n<;>simp
  unfold pop at*;simp only[bsum];omega
theorem RegOk.w1{n:Nat}{w:List Int}(R:RegOk n ts w):1<=w.length:=by have:=R.n2;have:=R.len;omega
theorem RegOk.pack_lt{n:Nat}{w:List Int}(R:RegOk n ts w)(k:Nat):packL (winW ts w k)<65536:=by
 have h1:=jhq (jeD (ts:=ts) R.bits k);rw[jcq R.w1,R.len]at h1;have:=jf0 R.n16;omega
theorem RegOk.mask_lt{n:Nat}{w:List Int}(R:RegOk n ts w):maskT ts<65536:=by
 have h1:=jkm R.taps ts.length;rw[List.take_length]at h1;have:=jf0 R.n16;omega
theorem RegOk.step{n:Nat}{ts w:List Int}(R:RegOk n ts w)(k:Nat):packL (winW ts w k)/2|||2^(n-1)*(xorT ts (winW ts w k)).toNat=packL (winW ts w (k+1)):=by
 have h1:=joQ (ts:=ts) (w:=winW ts w k) (by rw[jcq R.w1];exact R.w1) (jeD R.bits k);have hlt:=jhq (jeD (ts:=ts) R.bits k);rw[jcq R.w1,R.len]at h1 hlt;have hn:=R.n2;have e:2^n=2^(n-1)*2:=by rw[<-Nat.pow_succ];congr 1;omega
 have hlt2:packL (winW ts w k)/2<2^(n-1):=by omega
 rw[Nat.or_comm,<-Nat.two_pow_add_eq_or_of_lt hlt2,Nat.add_comm,<-h1];rfl
theorem RegOk.par{n:Nat}{w:List Int}(R:RegOk n ts w)(k:Nat):((pop (packL (winW ts w k)&&&maskT ts) 32:Nat):Int)% 2=xorT ts (winW ts w k):=by
 have h1:=jnX (n:=n) (by have:=R.n16;omega) R.taps (jeD (ts:=ts) R.bits k) ts.length (Nat.le_refl _);rw[List.take_length]at h1;rw[<-h1];omega
theorem RegOk.bit{n:Nat}{w:List Int}(R:RegOk n ts w)(k:Nat):((packL (winW ts w k)&&&1:Nat):Int)=seqB ts w k:=by
 have h1:=jib (jeD (ts:=ts) R.bits k) 0;have h2:=jmL (ts:=ts) R.bits k;have h3:packL (winW ts w k)&&&1=packL (winW ts w k)% 2:=Nat.and_one_is_mod _;unfold seqB at*;unfold bitN at h1;rw[Nat.testBit_zero]at h1;rw[h3];rcases h2 with h2|h2
 ·rw[h2]at h1|-;have:¬packL (winW ts w k)% 2=1:=fun e=>by simp[e]at h1
  omega
 ·rw[h2]at h1|-;have:packL (winW ts w k)% 2=1:=by
   by_cases e:packL (winW ts w k)% 2=1
   ·exact e
   ·simp[e]at h1
  omega
theorem jqv(hC:Has C TA){a b c:AV}:ACalls C 95 [.agg [a,b,c]] h (fun r h'=>r=.func 101 [] [.ptr h.size 0]/\h'=h.push (.cells [a,b,c] true 0)):=by
 refine zf 95 B95 hC ?_;simp only[B95,zB];exact ze
def jnZ(n:Nat)(ts w:List Int)(k:Nat):ABlk:=.cells [.int .i64 (n:Nat),.int .u32 (packL (winW ts w k):Nat),.int .u32 (maskT ts:Nat)] true 0
theorem joS(hC:Has C TA){l b n:Nat}{ts w:List Int}{h:Heap}(R:RegOk n ts w)(J:Nat->Heap->Prop)(D:Heap->Prop)(M:Nat)(h0:J 0 h)(hb:∀k h',J k h'->h'.get b=some (jnZ n ts w k))(hM:∀k h',J k h'->k<=M)
  (hy:∀k h',J k h'->jfR C l [.int .i64 (seqB ts w k),.int .u32 (packL (winW ts w (k+1)):Nat)] (h'.put b (jnZ n ts w (k+1))) (fun r h''=>(r=.bool true/\J (k+1) h'')\/(r=.bool false/\D h''))):
  ACalls C 101 [.yield l,.ptr b 0] h (fun _ h'=>D h'):=by
 refine zf 101 B101 hC ?_;simp only[B101,zB];refine zs ?_;refine jae (fun j t h'=>∃k:Nat,J k h'/\t 0=.yield l/\t 1=.ptr b 0/\j=M-k) (j0:=M) ⟨0,h0,rfl,rfl,rfl⟩ ?_;rintro j t h' ⟨k,hJ,e0,e1,hj⟩;have hbx:=hb k h' hJ;have hbl:=kab hbx;have hm:=hM k h' hJ;have p1:=R.pack_lt k;have p2:=R.mask_lt;have p3:packL (winW ts w k)&&&maskT ts<65536:=Nat.lt_of_le_of_lt Nat.and_le_left p1;have a1:bitsA .and .u32 (packL (winW ts w k):Nat) 1=seqB ts w k:=by
  have:=jmM (m:=packL (winW ts w k)) (n:=1) (by omega) (by decide);rw[R.bit k]at this;exact this
 have a2:=jmM (m:=packL (winW ts w k)) (n:=maskT ts) (by omega) (by omega);have sq:=jmL (ts:=ts) R.bits k;have xq:=jkh ts (winW ts w k);have hpar:=R.par k;have hpl:=jtg (packL (winW ts w k)&&&maskT ts) 32;have hpw:=jf0 (k:=n-1) (by have:=R.n16;omega);have ec:=jkl (n-1);have hst:=R.step k;have hn2:=R.n2;have hn16:=R.n16;have hor:=jqu (m:=packL (winW ts w k)/2) (n:=2^(n-1)*(xorT ts (winW ts w k)).toNat) (by omega) (by rcases xq with e|e<;>rw[e]<;>simp<;>omega);rw[hst]at hor;have e4:xorT ts (winW ts w k)*((2^(n-1):Nat):Int)=((2^(n-1)*(xorT ts (winW ts w k)).toNat:Nat):Int):=by rcases xq with e|e<;>rw[e]<;>simp
 have e5:(2^(n-1)*(xorT ts (winW ts w k)).toNat:Nat)<=65536:=by rcases xq with e|e<;>rw[e]<;>simp<;>omega
 have e6:((n:Int)-1).toNat=n-1:=by omega
 have e7:(packL (winW ts w k):Int)/2=((packL (winW ts w k)/2:Nat):Int):=by omega
 have hb2:h'.get b=some (.cells [.int .i64 (n:Nat),.int .u32 (packL (winW ts w k):Nat),.int .u32 (maskT ts:Nat)] true 0):=hbx;refine zs5 e0 e1 hb2 a1 a2 ?_;refine kaa (ji7 hC (by omega)) (zs7 e0 e1 hb2 hpar e6 ec (zI e4 (zI e7 hor)) ?_);refine kaE (hy k h' hJ) ?_;rintro r h'' (⟨rfl,hJ'⟩|⟨rfl,hD⟩)
 ·refine zs2 e0 e1 ?_;have:=hM _ _ hJ';exact⟨_,⟨k+1,hJ',rfl⟩,by omega⟩
 ·refine zs1 e0 ?_;exact hD
def jg3(ts w:List Int)(m k:Nat):List Int:=runL ts w k++List.replicate (m-k) 0
theorem jkn{w:List Int}{k:Nat}(h:k<=m):(jg3 ts w m k).length=m:=by simp[jg3,jb0];omega
theorem joT{w:List Int}{k:Nat}(h:k<m):(jg3 ts w m k).set k (seqB ts w k)=jg3 ts w m (k+1):=by
 unfold jg3;have hl:=jb0 ts w k;rw[List.set_append_right _ _ (by omega),hl,Nat.sub_self,show m-k=m-(k+1)+1 by omega,List.replicate_succ,List.set_cons_zero,jic,List.append_assoc];rfl
theorem joU(hC:Has C TA){n m:Nat}{ts w:List Int}{h:Heap}(R:RegOk n ts w)(hm:m<=100000):
  ACalls C 93 [.agg [.int .i64 (n:Nat),.int .u32 (packL w:Nat),.int .u32 (maskT ts:Nat)],.int .i64 (m:Nat)] h (fun r h'=>Fresh h h' r (runL ts w m)):=by
 refine zf 93 B93 hC ?_;simp only[B93,zB];refine zs ?_;refine kal (fun H hH=>?_);have N:H.size=h.size+4:=by rw[hH];exact ze
 have b3:H.get (h.size+1)=some (.cells [.int .i64 (m:Nat)] true 0):=by rw[hH];exact ze
 have b5:H.get (h.size+3)=some (.cells [.slice (h.size+2) 0 0 (.known m)] true 0):=by rw[hH];exact ze
 have br:H.get (h.size+2)=some (.cells (ints (List.replicate m 0)) true 0):=by rw[hH,<-ja0];exact ze
 have hsH:HSub h H:=by rw[hH];exact(((kac h _).push _).push _).push _
 clear hH;refine kaa (jqv hC) (zs ?_);refine jb5 (D:=fun h'=>∃R,h'.get (H.size+2)=some (.loop R)/\R.state=.done/\R.pend=some (.exit 0)/\HSub h h'/\h'.get (H.size+1)=some (.defd true)/\
   h'.get (h.size+3)=some (.cells [.slice (h.size+2) 0 m (.known m)] true 0)/\h'.get (h.size+2)=some (.cells (ints (runL ts w m)) true 0)/\H.size+3<=h'.size) ?_ ?_
 ·refine kaq (fun Q hR=>?_);show ACalls C 101 [.yield (H.size+2),.ptr H.size 0] _ _;have rs:Q.state=.ready:=by rw[hR]
  have rp:Q.pend=none:=by rw[hR]
  have rb:=jdG rs rp;refine joS hC R (fun k h'=>k<=m/\h'.get (H.size+2)=some (.loop Q)/\h'.get H.size=some (jnZ n ts w k)/\h'.get (H.size+1)=some (.defd true)/\HSub h h'/\H.size+3<=h'.size/\
   h'.get (h.size+1)=some (.cells [.int .i64 (m:Nat)] true 0)/\h'.get (h.size+3)=some (.cells [.slice (h.size+2) 0 k (.known m)] true 0)/\h'.get (h.size+2)=some (.cells (ints (jg3 ts w m k)) true 0)) _ m ?_ ?_ ?_ ?_
  ·refine⟨by omega,?_,?_,?_,?_,?_,?_,?_,?_⟩
   ·exact ze
   ·refine zs ?_;rfl
   ·exact ze
   ·exact((hsH.push _).push _).push _
   ·refine zs ?_;omega
   ·exact ze1 b3
   ·exact ze1 b5
   ·refine zs1 br ?_;simp[jg3,runL]
  ·rintro k h' ⟨_,_,q,_⟩;exact q
  ·rintro k h' ⟨q,_⟩;exact q
  ·rintro k h' ⟨hk,hl,hw1,hd,hsub,hsz,q3,q5,qr⟩;have hfl:=jkn (ts:=ts) (w:=w) hk;have hl2:(h'.put H.size (jnZ n ts w (k+1))).get (H.size+2)=some (.loop Q):=(get_put_ne (by omega)).trans hl;refine jcp hl2 rs (by rw[hR];rfl) ?_;simp only[congrArg ALoop.nt hR,congrArg ALoop.t hR,congrArg ALoop.params hR,congrArg ALoop.assign hR,congrArg ALoop.body hR];refine zs4 hl rs q3 q5 ?_;refine kaf (fun c=>?_) (fun c=>?_)
   ·have:k=m:=by omega
    subst this;refine zs1 hl ?_;exact .inr ⟨_,rfl,rfl,rfl,((hsub.put (by omega) _).put (by omega) _),hd,q5,by simpa[jg3]using qr,by omega⟩
   ·have hk':k<m:=by omega
    refine zs7 hl rs q3 q5 qr @cont_slice @contB_one ?_;exact .inl ⟨by omega,by rw[rb],hd,(((((hsub.put (by omega) _).put (by omega) _).put (by omega) _).put (by omega) _).put (by omega) _).push _,by omega,by rw[joT hk']⟩
 ·rintro h' ⟨Q,hl,hst,hpd,hsub,hd,q5,qr,hsz⟩;refine⟨Q,hl,by rw[hst];decide,?_⟩;rw[hpd];show jcD _ _ (.exit 0) _;refine zs2 hd q5 ?_;have rl:=jb0 ts w m;refine⟨(hsub.put (by omega) _).put (by omega) _,by omega,h.size+2,by omega,by rw[rl],?_⟩;exact ze1 qr
def jjv(n:Int)(ts w:List Int)(m:Int):Int:=if jdL n ts w=0 then(if m<0\/100000<m then 4 else 0)else jdL n ts w
theorem jsd(hC:Has C TA){n m:Int}{v1 v2:AV}{ts w:List Int}{h:Heap}(h1:RI h v1 ts)(h2:RI h v2 w)(hm:In64 m):
  ACalls C 81 [.int .i64 n,v1,v2,.int .i64 m] h (fun r h'=>∃v',r=jai v' (jjv n ts w m)/\HSub h h'/\RI h' v' (if jjv n ts w m=0 then runL ts w m.toNat else[])/\(jjv n ts w m=0->Fresh h h' v' (runL ts w m.toNat))):=by
 have pe:jjv n ts w m=if jdL n ts w=0 then(if m<0\/100000<m then 4 else 0)else jdL n ts w:=rfl
 unfold In64 at hm;by_cases c:jdL n ts w=0
 ·rw[if_pos c]at pe;obtain⟨k,rfl,R⟩:=jlC c;have eR:madeR k ts w=.tuple [.agg [.int .i64 (k:Nat),.int .u32 (packL w),.int .u32 (maskT ts)],.int .i64 0]:=by unfold madeR;rw[if_pos c]
  refine zf 81 B81 hC ?_;simp only[B81,zB];refine zs ?_;refine kai (jlD hC h1 h2) eR ?_;by_cases c2:m<0\/100000<m
  ·rw[if_pos c2]at pe;refine zs ?_
   (repeat' (first|(refine kaf (fun _=>?_) (fun _=>?_))|(refine zs ?_)))
   all_goals first|exact⟨.nilslice,by rw[pe,jai],kac _ _,by rw[if_neg (by rw[pe];decide)];exact kav,fun e=>absurd e (by rw[pe];decide)⟩|omega
  ·rw[if_neg c2]at pe;obtain⟨q,rfl⟩:=Int.eq_ofNat_of_zero_le (show 0<=m by omega);refine zs ?_;refine kad (joU hC R (by omega)) ?_;rintro r h' F;refine zs ?_;exact⟨r,by rw[pe,jai],(kac _ _).trans F.sub,by rw[if_pos pe];exact F.ri,fun _=>F.mono (kac _ _)⟩
 ·rw[if_neg c]at pe;have eR:madeR n ts w=.tuple [.agg [.int .i64 0,.int .u32 0,.int .u32 0],.int .i64 (jdL n ts w)]:=by unfold madeR;rw[if_neg c]
  refine zf 81 B81 hC ?_;simp only[B81,zB];refine zs ?_;refine kai (jlD hC h1 h2) eR (zs ?_);exact⟨.nilslice,by rw[pe,jai],kac _ _,by rw[if_neg (by rw[pe];exact c)];exact kav,fun e=>absurd e (by rw[pe];exact c)⟩
theorem gV_u{w:Bool}{p q:Prop}: @gV .undef w ⟨p⟩ ⟨q⟩=q:=rfl
theorem xor01{b:Int}(ha:a=0\/a=1)(hb:b=0\/b=1):bitsA .xor .i64 a b=(a+b)% 2:=by
 rcases ha with rfl|rfl<;>rcases hb with rfl|rfl<;>decide
theorem jse{n:Nat}{w:List Int}(R:RegOk n ts w){i t:Nat}(ht:t<n):(runL ts w (n+i)).getD (i+t) 0=(winW ts w i).getD t 0:=by
 rw[jnY (by omega),jhr R.w1 t i (by rw[R.len];exact ht)]
theorem joV(hC:Has C TA){n:Nat}{m:Int}{v1 v2:AV}{ts w:List Int}{h:Heap}(h1:RI h v1 ts)(h2:RI h v2 w)(R:RegOk n ts w)(hm:m<=1000000)(hm2:In64 m):
  ACalls C 91 [.int .i64 (n:Nat),v1,v2,.int .i64 m] h (fun r h'=>∃L:Nat,GrwI h h' r (runL ts w L)/\n<=L/\(m<=L)/\(L:Int)=max (n:Int) m):=by
 have hn2:=R.n2;have hn16:=R.n16;have hwl:=R.len;have l1:=h1.lt;unfold In64 at hm2;obtain⟨i,o,q,cp,rfl⟩:∃i o n cp,v2=.slice i o n cp:=by
  obtain⟨_,_,⟨rfl,h1⟩|⟨i,o,cp,vs,wr,u,rfl,_⟩⟩:=h2
  ·omega
  ·exact⟨_,_,_,_,rfl⟩
 have hc':jaH (h.push (.cells [] true 0)) 1 (.slice i o q cp)=some (w.length,ints w):=(h2.mono (kac _ _)).content;have rs:=joP (ts:=ts) R.w1;rw[hwl]at rs;refine zf 91 B91 hC ?_;simp only[B91,zB];refine zs1 @hc' ?_;refine jae (fun j t h'=>∃i:Nat,GrwI h h' (t 9) (runL ts w (n+i))/\t 1=v1/\t 3=.int .i64 m/\t 10=.int .i64 (i:Nat)/\(i=0\/n+i<=m)/\j=(m-(n+i)).toNat) (j0:=(m-n).toNat)
  ⟨0,?_,rfl,rfl,rfl,by omega,by omega⟩ ?_
 ·show GrwI h _ (.slice (h.size+1) 0 w.length (.unk 0)) (runL ts w n);rw[rs];exact ka5 ((kac _ _).push _) (by omega) (by omega) (get_push_eq rfl)
 rintro j t h' ⟨i,A,e1,e3,e10,hi,hj⟩;have rl:=jb0 ts w (n+i);have RA:=A.ri;refine zs3 e3 @RA.len rl ?_;refine kaf (fun c=>?_) (fun c=>?_)
 ·refine zs ?_;have h1':=h1.mono A.sub;refine jae (fun j u hx=>hx=h'/\∃k:Nat,u 9=t 9/\u 1=v1/\u 3=.int .i64 m/\u 10=.int .i64 (i:Nat)/\u 11=.int .i64 (xorT (ts.take k) (winW ts w i))/\u 12=.int .i64 (k:Nat)/\k<=ts.length/\j=ts.length-k) (j0:=ts.length)
   ⟨rfl,0,rfl,e1,e3,e10,rfl,rfl,by omega,rfl⟩ ?_
  rintro j u hx ⟨hh,k,f9,f1,f3,f10,f11,f12,hk,hj⟩;subst hh;refine zs3 f1 f12 @h1'.len ?_;refine kaf (fun c2=>?_) (fun c2=>?_)
  ·have hk':k<ts.length:=by omega
   have t0:=jeT R.taps hk';have t1:=(R.taps k hk').2;have ei:((i:Int)+ts.getD k 0).toNat=i+(ts.getD k 0).toNat:=by omega
   have eg:=jse R (i:=i) (t:=(ts.getD k 0).toNat) (by omega);have x1:=jkh (ts.take k) (winW ts w i);have x2:=(jeD (ts:=ts) R.bits i).get (ts.getD k 0).toNat;have ex:=xor01 x1 x2;have es:xorT (ts.take (k+1)) (winW ts w i)=(xorT (ts.take k) (winW ts w i)+(winW ts w i).getD (ts.getD k 0).toNat 0)% 2:=by rw[jap hk',jlz]
   rw[<-es]at ex;refine zs7 f1 f3 f9 f10 f11 f12 (zI @h1'.idx (zI @h1'.load (zI @RA.idx (zI @RA.load (zI ei (zI eg ex)))))) ?_;exact⟨_,⟨k+1,rfl,by simp,by omega,rfl⟩,by omega⟩
  ·have:k=ts.length:=by omega
   subst this;rw[List.take_length]at f11;have ex:xorT ts (winW ts w i)=seqB ts w (n+i):=by
    have:=jqt (ts:=ts) R.w1 i;rw[hwl]at this;rw[<-this,Nat.add_comm]
   have A2:=A.snoc (x:=seqB ts w (n+i)) (kac hx (.cells [.int .i64 (seqB ts w (n+i))] true 0)) (by omega);rw[<-jic,rl]at A2;have ers:=jic ts w (n+i);rw[ex]at f11;refine zs7 f1 f3 f9 f10 f11 @cont_slice (zI @contB_one (zI @A.app (zI rl (Eq.symm ers)))) ?_;exact⟨_,⟨i+1,A2,by simp,by omega,rfl⟩,by omega⟩
 ·refine zs ?_;exact⟨n+i,A,by omega,by omega,by omega⟩
def lenOk(d:Int):Bool:=[5,6,7,9,10].any fun y=>d==y
theorem jbw(h:lenOk d=true):d=5\/d=6\/d=7\/d=9\/d=10:=by
 simp only[lenOk,List.any_cons,List.any_nil,Bool.or_false,Bool.or_eq_true,beq_iff_eq]at h;exact h
def lenN(d:Int):Nat:=2^d.toNat-1
theorem jbk(h:lenOk d=true):31<=lenN d/\lenN d<=1023/\(2:Int)^d.toNat=((lenN d+1:Nat):Int):=by
 rcases jbw h with rfl|rfl|rfl|rfl|rfl<;>decide
def lenE(d:Int):AV:=if lenOk d=true then tup2 (lenN d) 0 else tup2 0 2
def tapsL(d w:Int):List Int:=
 if d=5 then(if w=1 then[0,2]else[0,2,3,4])else if d=6 then(if w=1 then[0,1]else[0,1,2,5])else if d=7 then(if w=1 then[0,3]else[0,1,2,3])
 else if d=9 then(if w=1 then[0,4]else[0,3,4,6])else(if w=1 then[0,3]else[0,2,3,8])
def jaC(d w:Int):Int:=if lenOk d=true/\(w=1\/w=2)then 0 else 2
theorem ja6{agg:Bool}{sz len:Nat}{vs:List AV}{kk:IntKind}{k:Int}(h:0<=k/\k<len):jkb agg sz len (.agg vs) (.int kk k)=partA agg vs (k.toNat*sz) sz:=by simp[jkb,h]
theorem jbh(hC:Has C TA)(hd:In64 d):ACalls C 70 [.int .i64 d] h (fun r h'=>r=lenE d/\h'=h):=by
 unfold In64 at hd;refine kae (P:=fun r h'=>r=lenE d/\HSub h h') ?_ (fun r h' hp=>⟨by rw[hp.1];unfold lenE tup2;split<;>exact jcX (by simp[AV.free,AV.bel]),hp.2,hp.1,rfl⟩);refine zf 70 B70 hC ?_;simp only[B70,zB];refine zs ?_;refine kaa (jbD hC (l:=[5,6,7,9,10]) (kah (get_push_eq rfl) ⟨rfl,by decide⟩ (by decide))) ?_;by_cases c:lenOk d=true
 ·have hl:=jbk c;have hc:=jbw c;have c':([5,6,7,9,10].any fun y=>d==y)=true:=c;rw[c'];refine zs2 @Int.one_mul @hl.2.2 ?_;exact⟨by unfold lenE tup2;rw[if_pos c];simp,kac _ _⟩
 ·have c':([5,6,7,9,10].any fun y=>d==y)=false:=Bool.eq_false_iff.2 c;rw[c'];refine zs ?_;exact⟨by unfold lenE tup2;rw[if_neg c],kac _ _⟩
theorem ja3(hC:Has C TA)(hd:In64 d):ACalls C 71 [.int .i64 d] h (fun r h'=>r=lenE d/\h'=h):=by
 unfold In64 at hd;by_cases c:lenOk d=true
 ·have e:lenE d=tup2 (lenN d) 0:=by unfold lenE;rw[if_pos c]
  rw[e];have hl:=jbk c;have e2:((lenN d+1:Nat):Int)-1=lenN d:=by omega
  rcases jbw c with rfl|rfl|rfl|rfl|rfl<;>
  ·refine zf 71 B71 hC ?_;simp only[B71,zB];refine zs ?_;rfl
 ·have e:lenE d=tup2 0 2:=by unfold lenE;rw[if_neg c]
  rw[e];have h5:d≠5:=fun h=>c (by rw[h];decide);have h6:d≠6:=fun h=>c (by rw[h];decide);have h7:d≠7:=fun h=>c (by rw[h];decide);have h9:d≠9:=fun h=>c (by rw[h];decide);have h10:d≠10:=fun h=>c (by rw[h];decide);refine zf 71 B71 hC ?_;simp only[B71,zB];refine zs ?_;rfl
def jko(b:Nat)(h:Heap):Prop:=
 h.get b=some (.cells (ints [0,2]) true 0)/\h.get (b+1)=some (.cells (ints [0,2,3,4]) true 0)/\h.get (b+2)=some (.cells (ints [0,1]) true 0)/\h.get (b+3)=some (.cells (ints [0,1,2,5]) true 0)/\
 h.get (b+4)=some (.cells (ints [0,3]) true 0)/\h.get (b+5)=some (.cells (ints [0,1,2,3]) true 0)/\h.get (b+6)=some (.cells (ints [0,4]) true 0)/\h.get (b+7)=some (.cells (ints [0,3,4,6]) true 0)/\
 h.get (b+8)=some (.cells (ints [0,3]) true 0)/\h.get (b+9)=some (.cells (ints [0,2,3,8]) true 0)
theorem jko.mono{b:Nat}(T:jko b h)(hs:HSub h h'):jko b h':=by
 obtain⟨a0,a1,a2,a3,a4,a5,a6,a7,a8,a9⟩:=T;have k:∀{i x},h.get i=some x->h'.get i=some x:=fun e=>(hs.get _ (kab e)).trans e;exact⟨k a0,k a1,k a2,k a3,k a4,k a5,k a6,k a7,k a8,k a9⟩
def jth(b:Nat):AV:=.agg [.int .i64 5,.slice b 0 2 (.known 2),.slice (b+1) 0 4 (.known 4),.int .i64 6,.slice (b+2) 0 2 (.known 2),.slice (b+3) 0 4 (.known 4),.int .i64 7,.slice (b+4) 0 2 (.known 2),.slice (b+5) 0 4 (.known 4),
 .int .i64 9,.slice (b+6) 0 2 (.known 2),.slice (b+7) 0 4 (.known 4),.int .i64 10,.slice (b+8) 0 2 (.known 2),.slice (b+9) 0 4 (.known 4)]
theorem jlE(hC:Has C TA){w:Int}(hd:In64 d)(hw:In64 w):ACalls C 72 [.int .i64 d,.int .i64 w] h (fun r h'=>∃v,r=jai v (jaC d w)/\HSub h h'/\RI h' v (if jaC d w=0 then tapsL d w else[])):=by
 unfold In64 at hw;by_cases c:lenOk d=true
 ·have e:lenE d=tup2 (lenN d) 0:=by unfold lenE;rw[if_pos c]
  by_cases cw:w=1\/w=2
  ·have pe:jaC d w=0:=by unfold jaC;rw[if_pos ⟨c,cw⟩]
   rw[pe];refine zf 72 B72 hC ?_;simp only[B72,zB];refine zs ?_;refine kai (jbh hC hd) e (zs1 @tup2.eq_1 ?_);refine jae (fun j t h'=>∃i:Nat,i<=4/\HSub h h'/\jko h.size h'/\t 0=.int .i64 d/\t 1=.int .i64 w/\t 46=jth h.size/\t 47=.int .i64 (i:Nat)/\(∀y∈([5,6,7,9,10]:List Int).take i,d≠y)/\j=5-i) (j0:=5)
    ⟨0,by omega,?_,?_,rfl,rfl,rfl,rfl,by simp,rfl⟩ ?_
   ·(repeat(first|exact kag _|refine HSub.push ?_ _))
   ·refine⟨?_,?_,?_,?_,?_,?_,?_,?_,?_,?_⟩<;>(refine zs ?_;try rfl)
   rintro j t h' ⟨i,hi,hs,T,e0,e1,e46,e47,hne,hj⟩;unfold jth at e46;rcases(show i=0\/i=1\/i=2\/i=3\/i=4 by omega)with rfl|rfl|rfl|rfl|rfl
   ·by_cases cd:d=5
    ·subst cd;rcases cw with rfl|rfl
     ·refine zs5 e0 e1 e46 e47 @ja6 ?_;exact⟨.slice (h.size+0) 0 2 (.known 2),by simp[jai],hs.push _,kah ((get_push_lt (kab T.1)).trans T.1) ⟨rfl,by decide⟩ (by decide)⟩
     ·refine zs5 e0 e1 e46 e47 @ja6 ?_;exact⟨.slice (h.size+1) 0 4 (.known 4),by simp[jai],hs.push _,kah ((get_push_lt (kab T.2.1)).trans T.2.1) ⟨rfl,by decide⟩ (by decide)⟩
    ·refine zs5 e0 e1 e46 e47 @ja6 ?_;exact⟨_,⟨1,by omega,hs.push _,T.mono (kac _ _),rfl,by simp,fun y hy=>(by have hn:=hne;simp at hn hy;omega),rfl⟩,by omega⟩
   ·by_cases cd:d=6
    ·subst cd;rcases cw with rfl|rfl
     ·refine zs5 e0 e1 e46 e47 @ja6 ?_;exact⟨.slice (h.size+2) 0 2 (.known 2),by simp[jai],hs.push _,kah ((get_push_lt (kab T.2.2.1)).trans T.2.2.1) ⟨rfl,by decide⟩ (by decide)⟩
     ·refine zs5 e0 e1 e46 e47 @ja6 ?_;exact⟨.slice (h.size+3) 0 4 (.known 4),by simp[jai],hs.push _,kah ((get_push_lt (kab T.2.2.2.1)).trans T.2.2.2.1) ⟨rfl,by decide⟩ (by decide)⟩
    ·refine zs5 e0 e1 e46 e47 @ja6 ?_;exact⟨_,⟨2,by omega,hs.push _,T.mono (kac _ _),rfl,by simp,fun y hy=>(by have hn:=hne;simp at hn hy;omega),rfl⟩,by omega⟩
   ·by_cases cd:d=7
    ·subst cd;rcases cw with rfl|rfl
     ·refine zs5 e0 e1 e46 e47 @ja6 ?_;exact⟨.slice (h.size+4) 0 2 (.known 2),by simp[jai],hs.push _,kah ((get_push_lt (kab T.2.2.2.2.1)).trans T.2.2.2.2.1) ⟨rfl,by decide⟩ (by decide)⟩
     ·refine zs5 e0 e1 e46 e47 @ja6 ?_;exact⟨.slice (h.size+5) 0 4 (.known 4),by simp[jai],hs.push _,kah ((get_push_lt (kab T.2.2.2.2.2.1)).trans T.2.2.2.2.2.1) ⟨rfl,by decide⟩ (by decide)⟩
    ·refine zs5 e0 e1 e46 e47 @ja6 ?_;exact⟨_,⟨3,by omega,hs.push _,T.mono (kac _ _),rfl,by simp,fun y hy=>(by have hn:=hne;simp at hn hy;omega),rfl⟩,by omega⟩
   ·by_cases cd:d=9
    ·subst cd;rcases cw with rfl|rfl
     ·refine zs5 e0 e1 e46 e47 @ja6 ?_;exact⟨.slice (h.size+6) 0 2 (.known 2),by simp[jai],hs.push _,kah ((get_push_lt (kab T.2.2.2.2.2.2.1)).trans T.2.2.2.2.2.2.1) ⟨rfl,by decide⟩ (by decide)⟩
     ·refine zs5 e0 e1 e46 e47 @ja6 ?_;exact⟨.slice (h.size+7) 0 4 (.known 4),by simp[jai],hs.push _,kah ((get_push_lt (kab T.2.2.2.2.2.2.2.1)).trans T.2.2.2.2.2.2.2.1) ⟨rfl,by decide⟩ (by decide)⟩
    ·refine zs5 e0 e1 e46 e47 @ja6 ?_;exact⟨_,⟨4,by omega,hs.push _,T.mono (kac _ _),rfl,by simp,fun y hy=>(by have hn:=hne;simp at hn hy;omega),rfl⟩,by omega⟩
   ·by_cases cd:d=10
    ·subst cd;rcases cw with rfl|rfl
     ·refine zs5 e0 e1 e46 e47 @ja6 ?_;exact⟨.slice (h.size+8) 0 2 (.known 2),by simp[jai],hs.push _,kah ((get_push_lt (kab T.2.2.2.2.2.2.2.2.1)).trans T.2.2.2.2.2.2.2.2.1) ⟨rfl,by decide⟩ (by decide)⟩
     ·refine zs5 e0 e1 e46 e47 @ja6 ?_;exact⟨.slice (h.size+9) 0 4 (.known 4),by simp[jai],hs.push _,kah ((get_push_lt (kab T.2.2.2.2.2.2.2.2.2)).trans T.2.2.2.2.2.2.2.2.2) ⟨rfl,by decide⟩ (by decide)⟩
    ·exfalso;rcases jbw c with h|h|h|h|h<;>simp_all
  ·have pe:jaC d w=2:=by unfold jaC;rw[if_neg (fun h=>cw h.2)]
   rw[pe];refine zf 72 B72 hC ?_;simp only[B72,zB];refine zs ?_;refine kai (jbh hC hd) e (zs1 @tup2.eq_1 ?_)
   (repeat' (first|(refine kaf (fun _=>?_) (fun _=>?_))|(refine zs ?_)))
   all_goals first|exact⟨.nilslice,by rw[jai],kag _,kav⟩|omega
 ·have e:lenE d=tup2 0 2:=by unfold lenE;rw[if_neg c]
  have pe:jaC d w=2:=by unfold jaC;rw[if_neg (fun h=>c h.1)]
  rw[pe];refine zf 72 B72 hC ?_;simp only[B72,zB];refine zs ?_;refine kai (jbh hC hd) e (zs1 @tup2.eq_1 ?_);exact⟨.nilslice,by rw[jai],kag _,kav⟩
theorem jid(hC:Has C TA){w:Int}(hd:In64 d)(hw:In64 w):ACalls C 73 [.int .i64 d,.int .i64 w] h (fun r h'=>∃v,r=jai v (jaC d w)/\HSub h h'/\RI h' v (if jaC d w=0 then tapsL d w else[])):=by
 have hw':=hw;unfold In64 at hw';by_cases c:lenOk d=true
 ·have e:lenE d=tup2 (lenN d) 0:=by unfold lenE;rw[if_pos c]
  by_cases cw:w=1\/w=2
  ·have pe:jaC d w=0:=by unfold jaC;rw[if_pos ⟨c,cw⟩]
   rw[pe];have fin:∀{l:List Int},l=tapsL d w->l.length<9223372036854775808->∃v,AV.tuple [.slice h.size 0 l.length (.known l.length),.int .i64 0]=jai v 0/\HSub h (h.push (.cells (ints l) true 0))/\RI (h.push (.cells (ints l) true 0)) v (if(0:Int)=0 then tapsL d w else[]):=by
    rintro l rfl hl;exact⟨_,rfl,kac _ _,by rw[if_pos rfl];exact kah (get_push_eq rfl) ⟨rfl,hl⟩ (Nat.le_refl _)⟩
   rcases jbw c with rfl|rfl|rfl|rfl|rfl<;>rcases cw with rfl|rfl<;>
   ·refine zf 73 B73 hC ?_;simp only[B73,zB];refine zs ?_;refine kai (ja3 hC hd) e (zs1 @tup2.eq_1 ?_);exact fin (l:=tapsL _ _) rfl (by decide)
  ·have pe:jaC d w=2:=by unfold jaC;rw[if_neg (fun h=>cw h.2)]
   rw[pe];refine zf 73 B73 hC ?_;simp only[B73,zB];refine zs ?_;refine kai (ja3 hC hd) e (zs1 @tup2.eq_1 ?_)
   (repeat' (first|(refine kaf (fun _=>?_) (fun _=>?_))|((refine zs ?_;try with_reducible trivial))))
   all_goals first|exact⟨.nilslice,by rw[jai],kag _,kav⟩|omega
 ·have e:lenE d=tup2 0 2:=by unfold lenE;rw[if_neg c]
  have pe:jaC d w=2:=by unfold jaC;rw[if_neg (fun h=>c h.1)]
  rw[pe];refine zf 73 B73 hC ?_;simp only[B73,zB];refine zs ?_;refine kai (ja3 hC hd) e (zs1 @tup2.eq_1 ?_);exact⟨.nilslice,by rw[jai],kag _,kav⟩
theorem nat64{n:Nat}(h:n<18446744073709551616):(BitVec.ofInt 64 (n:Int)).toNat=n:=by
 rw[BitVec.toNat_ofInt];have:((n:Int)% ((2^64:Nat):Int)).toNat=n:=by
  rw[Int.emod_eq_of_lt (by omega) (by omega)];simp
 exact this
theorem jn0{a:Int}(h:0<=a/\a<18446744073709551616):bitsA .and .u64 a 4294967295=a% 4294967296:=by
 obtain⟨n,rfl⟩:=Int.eq_ofNat_of_zero_le h.1;show IntKind.u64.wrap ((BitVec.ofInt 64 (n:Int)&&&BitVec.ofInt 64 ((4294967295:Nat):Int)).toNat:Int)=_;rw[BitVec.toNat_and,nat64 (by omega),nat64 (by decide)];have e:n&&&4294967295=n% 4294967296:=Nat.and_two_pow_sub_one_eq_mod n 32;rw[e,w_u64 (by omega)];omega
theorem jgC{h:Heap}{i o n u:Nat}{c:Cap}{s:AV}{m:Nat}{cs vs:List AV}(hc:jaH h 1 s=some (m,cs))(hg:h.get i=some (.cells vs true u))(hb:o+min m n<=vs.length)(h1:(cs.take (min m n)).all AV.one=true):
  copyA h 1 (.slice i o n c) s=some (.int .i64 (min m n:Nat),h.put i (.cells (splice vs o (cs.take (min m n))) true u)):=by
 simp only[copyA,hc,hg,Nat.mul_one];rw[if_pos ⟨hb,h1⟩]
def ones01(x:Int)(n p:Nat):List Int:=List.replicate p x++List.replicate (n-p) 0
theorem jec{x:Int}{n p:Nat}(h:p<=n):(ones01 x n p).length=n:=by simp[ones01];omega
theorem jgD{o:Nat}(h:o+cs.length<=vs.length):splice vs o cs=vs.take o++cs++vs.drop (o+cs.length):=by
 match cs,h with
 |[],_=>rfl
 |[c],h=>
  rw[splice_one,List.set_eq_take_append_cons_drop,if_pos (by simp at h;omega)];simp
 |x::y::cs,_=>rfl
theorem jf1{x:Int}{n p k:Nat}(h:p+k<=n):splice (ints (ones01 x n p)) p (ints (List.replicate k x))=ints (ones01 x n (p+k)):=by
 rw[jgD (by rw[ints_length,ints_length,jec (by omega),List.length_replicate];exact h)];unfold ones01 ints;have e1:(List.replicate p x++List.replicate (n-p) (0:Int)).take p=List.replicate p x:=by simp
 have e2:(List.replicate p x++List.replicate (n-p) (0:Int)).drop (p+k)=List.replicate (n-(p+k)) 0:=by
  rw[List.drop_append];simp;omega
 have e3:(List.map (AV.int .i64) (List.replicate k x)).length=k:=by simp
 rw[e3,<-List.map_take,<-List.map_drop,e1,e2,<-List.map_append,<-List.map_append,List.replicate_append_replicate]
theorem joW(hC:Has C TA){b:Int}(ha:0<=a/\a<4294967296)(hb:0<=b/\b<4294967296)(hab:0<=a*b/\a*b<4294967296):ACalls C 105 [.int .u64 a,.int .u64 b] h (fun r h'=>r=.tuple [.int .u64 0,.int .u64 (a*b)]/\h'=h):=by
 have e1:a% 4294967296=a:=Int.emod_eq_of_lt ha.1 ha.2;have e2:b% 4294967296=b:=Int.emod_eq_of_lt hb.1 hb.2;have e3:a/4294967296=0:=Int.ediv_eq_zero_of_lt ha.1 ha.2;have e4:b/4294967296=0:=Int.ediv_eq_zero_of_lt hb.1 hb.2;have e5:a*b/4294967296=0:=Int.ediv_eq_zero_of_lt hab.1 hab.2;refine zf 105 B105 hC ?_;simp only[B105,zB];exact ze7 @jn0 e1 e2 e3 e4 e5 (zI @Int.zero_mul (zI @Int.mul_zero (zI @Int.add_zero (zI @Int.zero_ediv @Int.zero_emod))))
theorem jsf(hC:Has C TA){b:Int}(ha:0<=a/\a<4294967296)(hb:0<=b/\b<4294967296)(hab:0<=a*b/\a*b<4294967296):ACalls C 100 [.int .u64 a,.int .u64 b] h (fun r h'=>r=.tuple [.int .u64 0,.int .u64 (a*b)]/\h'=h):=by
 refine zf 100 B100 hC ?_;simp only[B100,zB];refine zs ?_;refine kaa (joW hC ha hb hab) ?_;exact ze
theorem jie(hC:Has C TA){x:Int}{n:Nat}(hv:RI h v [x])(hn:1<=n/\n<=1000000):ACalls C 90 [v,.int .i64 (n:Nat)] h (fun r h'=>Fresh h h' r (List.replicate n x)):=by
 have hcv:=(hv.mono (kac h (.cells (ints (List.replicate n 0)) true 0))).content;have m1:min 1 n=1:=by omega
 have es:splice (ints (List.replicate n 0)) 0 ((ints [x]).take (min [x].length n))=ints (ones01 x n 1):=by
  have h0:ints (List.replicate n 0)=ints (ones01 x n 0):=by simp[ones01]
  have h1:(ints [x]).take (min [x].length n)=ints (List.replicate 1 x):=by show(ints [x]).take (min 1 n)=_;rw[m1];rfl
  rw[h1,h0,jf1 (by omega)]
 have hcp:=jgC (h:=h.push (.cells (ints (List.replicate n 0)) true 0)) (i:=h.size) (o:=0) (n:=n) (c:=.known n) (u:=0) hcv (get_push_eq rfl) (by simp[ints];omega) (by show((ints [x]).take (min 1 n)).all AV.one=true;rw[m1];rfl);rw[es]at hcp;have hcp:copyA (h.push (.cells (ints (List.replicate n 0)) true 0)) 1 (.slice h.size 0 n (.known n)) v=some (.int .i64 ((1:Nat):Int),(h.push (.cells (ints (List.replicate n 0)) true 0)).put h.size (.cells (ints (ones01 x n 1)) true 0)):=by
  have:min [x].length n=1:=m1;rw[this]at hcp;exact hcp
 have m3:(1:Int)*(n:Int)=(n:Int):=Int.one_mul _;refine zf 90 B90 hC ?_;simp only[B90,zB];refine zs1 @hv.len ?_;refine kaa (jsf hC (a:=1) (b:=(n:Int)) (by decide) (by omega) (by omega)) (zs3 @m3 @ja0 hcp ?_);have s1:∀(H:Heap) (p:Nat),p<n->jaO H 1 (.slice h.size 0 n (.known n)) (some (.int .i64 p)) none none=some (.slice h.size p (n-p) (.known (n-p))):=by
  intro H p hp;simp only[jaO];rw[jcE (a:=p) (b:=n) (c:=n) rfl rfl rfl (by omega)];simp only;rw[if_neg (by omega)];simp
 have s2:∀(H:Heap) (p:Nat),p<n->jaO H 1 (.slice h.size 0 n (.known n)) none (some (.int .i64 p)) none=some (.slice h.size 0 p (.known n)):=by
  intro H p hp;simp only[jaO];rw[jcE (a:=0) (b:=p) (c:=n) rfl rfl rfl (by omega)];simp only;rw[if_neg (by omega)];simp
 refine jae (fun j t h'=>∃p:Nat,HSub h h'/\h'.get h.size=some (.cells (ints (ones01 x n p)) true 0)/\t 7=.slice h.size 0 n (.known n)/\t 8=.int .i64 (p:Nat)/\1<=p/\p<=n/\j=n-p) (j0:=n-1)
  ⟨1,kac _ _,get_push_eq rfl,rfl,rfl,by omega,by omega,rfl⟩ ?_
 rintro j t h' ⟨p,hs,hg,e7,e8,hp1,hp2,hj⟩;refine zs2 e7 e8 ?_;refine kaf (fun c=>?_) (fun c=>?_)
 ·have hp:p<n:=by omega
  have hol:=jec (x:=x) (n:=n) (p:=p) hp2;have hgr:(h'.reserve 10).get h.size=some (.cells (ints (ones01 x n p)) true 0):=hg;have hc2:jaH (h'.reserve 10) 1 (.slice h.size 0 p (.known n))=some (p,ints (List.replicate p x)):=by
   rw[cont_slice,hgr,joL (by rw[ints_length,hol];omega)];congr 2;rw[Nat.mul_one,jnU];congr 1;simp[ones01]
  have hk:p+min p (n-p)<=n:=by omega
  have h3:=jgC (h:=h'.reserve 10) (i:=h.size) (o:=p) (n:=n-p) (c:=.known (n-p)) (u:=0) hc2 hgr (by rw[ints_length,hol];exact hk) (by unfold ints;rw[<-List.map_take];exact jkc);have h4:(ints (List.replicate p x)).take (min p (n-p))=ints (List.replicate (min p (n-p)) x):=by unfold ints;rw[<-List.map_take,List.take_replicate];congr 2;omega
  rw[h4,jf1 hk]at h3;refine zs5 e7 e8 s1 s2 h3 ?_;refine⟨_,⟨p+min p (n-p),?_,?_,by omega,by omega,by omega,rfl⟩,by omega⟩
  ·exact(hs.reserve _).put (Nat.le_refl _) _
  ·exact get_put_eq rfl (kab hgr)
 ·have:p=n:=by omega
  subst this;refine zs1 e7 ?_;have:ones01 x p p=List.replicate p x:=by simp[ones01]
  rw[this]at hg;exact⟨hs,by simp;omega,h.size,Nat.le_refl _,by simp,hg⟩
def onesL(d:Int):List Int:=List.replicate d.toNat 1
def bitsL(d w:Int):List Int:=runL (tapsL d w) (onesL d) (lenN d)
theorem jbu(d w:Int):(bitsL d w).length=lenN d:=jb0 _ _ _
theorem jti{w:Int}(hd:lenOk d=true)(hw:w=1\/w=2):jdL d (tapsL d w) (onesL d)=0:=by
 rcases jbw hd with rfl|rfl|rfl|rfl|rfl<;>rcases hw with rfl|rfl<;>decide
theorem jed{w:Int}:∀x∈bitsL d w,x=0\/x=1:=by
 intro x hx;obtain⟨k,_,rfl⟩:=List.mem_map.1 hx;exact jmL (fun y hy=>.inr (List.mem_replicate.1 hy).2) k
theorem jqw(hC:Has C TA){w:Int}(hd:In64 d)(hw:In64 w):ACalls C 74 [.int .i64 d,.int .i64 w] h (fun r h'=>∃v,r=jai v (jaC d w)/\HSub h h'/\RI h' v (if jaC d w=0 then bitsL d w else[])/\(jaC d w=0->Fresh h h' v (bitsL d w))):=by
 by_cases c:lenOk d=true/\(w=1\/w=2)
 ·have pe:jaC d w=0:=by unfold jaC;rw[if_pos c]
  have hl:=jbk c.1;have hr:=jti c.1 c.2;have hd5:5<=d/\d<=10:=by have:=jbw c.1;omega
  have hT:=jlE (d:=d) (w:=w) (h:=h) hC hd hw;rw[pe,if_pos rfl]at hT;rw[pe];obtain⟨k,rfl⟩:=Int.eq_ofNat_of_zero_le (show 0<=d by omega);have re:jjv (k:Nat) (tapsL (k:Nat) w) (onesL (k:Nat)) (lenN (k:Nat))=0:=by unfold jjv;rw[if_pos hr,if_neg (by omega)]
  refine zf 74 B74 hC ?_;simp only[B74,zB];refine zs ?_;refine kad hT ?_;rintro r h1 ⟨v1,rfl,s1,R1⟩;have h22:(2:Int)^k=((lenN (k:Nat)+1:Nat):Int):=by have:=hl.2.2;rwa [Int.toNat_natCast]at this
  have e3:((lenN (k:Nat)+1:Nat):Int)-1=lenN (k:Nat):=by omega
  refine zs5 @jai.eq_1 @Int.one_mul h22 e3 @Heap.wf ?_;have eo:onesL ((k:Nat):Int)=List.replicate k 1:=by simp[onesL]
  have hsH:HSub h1 ((h1.reserve 13).put (h1.size+2) (.cells [.int .i64 1] true 0)):=((kag _).reserve _).put (by omega) _;refine kad (jie hC (x:=1) (n:=k) (kah (get_put_eq rfl (by simp)) ⟨rfl,by decide⟩ (by decide)) (by omega)) ?_;rintro r h2 F;have s2:=F.sub;have s02:=s1.trans (hsH.trans s2);have hR:=jsd (m:=(lenN (k:Nat):Int)) (h:=h2) hC (R1.mono (hsH.trans s2)) (w:=onesL (k:Nat)) (n:=(k:Nat)) (by rw[eo];exact F.ri) (by unfold In64;omega);rw[re]at hR;refine zs3 h22 e3 @Int.one_mul ?_;refine kad hR ?_;rintro r h3 ⟨v3,rfl,s3,R3,F3⟩;refine zs1 @jai.eq_1 ?_
  have F3:=F3 rfl;have:(lenN (k:Nat):Int).toNat=lenN (k:Nat):=Int.toNat_natCast _;rw[this]at F3;exact⟨v3,rfl,s02.trans s3,by rw[if_pos trivial];exact F3.ri,fun _=>F3.mono s02⟩
 ·have pe:jaC d w=2:=by unfold jaC;rw[if_neg c]
  have hT:=jlE (d:=d) (w:=w) (h:=h) hC hd hw;rw[pe]at hT;rw[pe];refine zf 74 B74 hC ?_;simp only[B74,zB];refine zs ?_;refine kad hT ?_;rintro r h1 ⟨v1,rfl,s1,R1⟩;refine zs1 @jai.eq_1 ?_;exact⟨.nilslice,rfl,s1,by rw[if_neg id];exact kav⟩
theorem jmN(hC:Has C TA){w:Int}(hd:In64 d)(hw:In64 w):ACalls C 75 [.int .i64 d,.int .i64 w] h (fun r h'=>∃v,r=jai v (jaC d w)/\HSub h h'/\RI h' v (if jaC d w=0 then bitsL d w else[])):=by
 by_cases c:lenOk d=true/\(w=1\/w=2)
 ·have pe:jaC d w=0:=by unfold jaC;rw[if_pos c]
  have hl:=jbk c.1;have hr:=jti c.1 c.2;have hd5:5<=d/\d<=10:=by have:=jbw c.1;omega
  have hT:=jid (d:=d) (w:=w) (h:=h) hC hd hw;rw[pe,if_pos rfl]at hT;have eL:lenE d=tup2 (lenN d) 0:=by unfold lenE;rw[if_pos c.1]
  rw[pe];obtain⟨k,rfl⟩:=Int.eq_ofNat_of_zero_le (show 0<=d by omega);obtain⟨kk,hkk,R⟩:=jlC hr;have:kk=k:=by omega
  subst this;refine zf 75 B75 hC ?_;simp only[B75,zB];refine zs ?_;refine kad hT ?_;rintro r h1 ⟨v1,rfl,s1,R1⟩;refine zs1 @jai.eq_1 ?_;refine kai (ja3 hC hd) eL (zs2 @tup2.eq_1 @ja0 ?_);have hol:∀p,p<=kk->(ones01 1 kk p).length=kk:=fun p hp=>jec hp;refine jae (fun j t h'=>∃p:Nat,h'=h1.push (.cells (ints (ones01 1 kk p)) true 0)/\t 0=.int .i64 (kk:Nat)/\t 6=v1/\t 8=.int .i64 (lenN (kk:Nat))/\t 10=.slice h1.size 0 kk (.known kk)/\t 11=.int .i64 (p:Nat)/\p<=kk/\j=kk-p) (j0:=kk)
   ⟨0,by simp[ones01],rfl,rfl,rfl,rfl,rfl,by omega,rfl⟩ ?_
  rintro j t h' ⟨p,rfl,e0,e6,e8,e10,e11,hp,hj⟩;have holp:=hol p hp;refine zs2 e0 e11 ?_;refine kaf (fun c1=>?_) (fun c1=>?_)
  ·have hset:(ones01 1 kk p).set p 1=ones01 1 kk (p+1):=by
    unfold ones01;rw[List.set_append_right _ _ (by simp),List.length_replicate,Nat.sub_self,show kk-p=kk-(p+1)+1 by omega,List.replicate_succ,List.set_cons_zero];rw[show List.replicate (p+1) (1:Int)=List.replicate p 1++[1]from List.replicate_succ',List.append_assoc];rfl
   refine zs6 e0 e6 e8 e10 e11 hset ?_;exact⟨_,⟨p+1,rfl,by simp,by omega,rfl⟩,by omega⟩
  ·have:p=kk:=by omega
   subst this;have eo:ones01 1 p p=onesL (p:Nat):=by simp[ones01,onesL]
   rw[eo]at holp|-;have RO:RI (h1.push (.cells (ints (onesL (p:Nat))) true 0)) (.slice h1.size 0 p (.known p)) (onesL (p:Nat)):=kah (get_push_eq rfl) ⟨by rw[holp],by omega⟩ (by omega);refine zs4 e0 e6 e8 e10 ?_;refine kad (joV hC (m:=(lenN (p:Nat):Int)) (R1.mono (kac _ _)) RO R (by omega) (by unfold In64;omega)) ?_;rintro r h3 ⟨L,A,hL1,hL2,hL3⟩;have RA:=A.ri;have rl:=jb0 (tapsL (p:Nat) w) (onesL (p:Nat)) L;have Pa:=RA.part_b (k2:=.i64) (b:=(lenN (p:Nat):Int)) (by omega);obtain⟨wa,ea,Rwa⟩:=Pa;refine zs2 e8 ea ?_;refine⟨wa,rfl,(s1.trans (kac _ _)).trans A.sub,?_⟩
   rw[Int.toNat_natCast,jqs (by omega)]at Rwa;rw[if_pos trivial];exact Rwa
 ·have pe:jaC d w=2:=by unfold jaC;rw[if_neg c]
  have hT:=jid (d:=d) (w:=w) (h:=h) hC hd hw;rw[pe]at hT;rw[pe];refine zf 75 B75 hC ?_;simp only[B75,zB];refine zs ?_;refine kad hT ?_;rintro r h1 ⟨v1,rfl,s1,R1⟩;refine zs1 @jai.eq_1 ?_;exact⟨.nilslice,rfl,s1,by rw[if_neg id];exact kav⟩
def codeB(d p:Int)(i:Nat):Int:=
 if p=1 then(bitsL d 1).getD i 0 else if p=2 then(bitsL d 2).getD i 0 else((bitsL d 1).getD i 0+(bitsL d 2).getD ((i+(p-3).toNat)% lenN d) 0)% 2
def bitC(d p:Int):List Int:=(List.range (lenN d)).map (codeB d p)
def codeL(d p:Int):List Int:=(bitC d p).map fun b=>1-2*b
def jaG(d p:Int):Int:=if lenOk d=true/\1<=p/\p<=lenN d+2 then 0 else 2
theorem jcr(d p:Int):(bitC d p).length=lenN d:=by simp[bitC]
theorem jaM(d p:Int):(codeL d p).length=lenN d:=by simp[codeL,bitC]
theorem jb7{l:List Int}(h:∀x∈l,x=0\/x=1)(i:Nat):l.getD i 0=0\/l.getD i 0=1:=bit01.get h i
theorem jf2(d p:Int)(i:Nat):codeB d p i=0\/codeB d p i=1:=by
 unfold codeB;have h1:=jb7 (jed (d:=d) (w:=1)) i;have h2:=jb7 (jed (d:=d) (w:=2)) i;split
 ·exact h1
 ·split
  ·exact h2
  ·omega
theorem jqx(d:Int):bitC d 1=bitsL d 1:=by
 refine seqx (by rw[jcr,jbu]) fun i hi=>?_;rw[jcr]at hi;simp[bitC,hi,codeB]
theorem jqy(d:Int):bitC d 2=bitsL d 2:=by
 refine seqx (by rw[jcr,jbu]) fun i hi=>?_;rw[jcr]at hi;simp[bitC,hi,codeB]
def codeP(d p:Int)(k:Nat):List Int:=(List.range (lenN d)).map fun i=>if i<k then codeB d p i else(bitsL d 1).getD i 0
theorem codeP_length(d p:Int)(k:Nat):(codeP d p k).length=lenN d:=by simp[codeP]
theorem jeE{p:Int}{k i:Nat}(hi:i<lenN d):(codeP d p k).getD i 0=if i<k then codeB d p i else(bitsL d 1).getD i 0:=by simp[codeP,hi]
theorem joX(d p:Int):codeP d p 0=bitsL d 1:=by
 refine seqx (by rw[codeP_length,jbu]) fun i hi=>?_;rw[codeP_length]at hi;rw[jeE hi,if_neg (by omega)]
theorem joY(d p:Int):codeP d p (lenN d)=bitC d p:=by
 refine seqx (by rw[codeP_length,jcr]) fun i hi=>?_;rw[codeP_length]at hi;rw[jeE hi,if_pos hi];simp[bitC,hi]
theorem jqz{p:Int}{k:Nat}(hk:k<lenN d):(codeP d p k).set k (codeB d p k)=codeP d p (k+1):=by
 refine seqx (by simp[codeP]) fun i hi=>?_;simp only[List.length_set,codeP_length]at hi;rw[jeE hi];simp only[List.getD_eq_getElem?_getD,List.getElem?_set,codeP_length];by_cases e:k=i
 ·subst e;rw[if_pos rfl,if_pos hk,if_pos (by omega)];rfl
 ·rw[if_neg e];have:=jeE (p:=p) (k:=k) hi;rw[List.getD_eq_getElem?_getD]at this;rw[this];by_cases c:i<k
  ·rw[if_pos c,if_pos (by omega)]
  ·rw[if_neg c,if_neg (by omega)];simp
theorem jqA(hC:Has C TA){p:Int}(hd:In64 d)(hp:In64 p):ACalls C 76 [.int .i64 d,.int .i64 p] h (fun r h'=>∃v,r=jai v (jaG d p)/\HSub h h'/\RI h' v (if jaG d p=0 then codeL d p else[])/\(jaG d p=0->Fresh h h' v (codeL d p))):=by
 have hp':=hp;unfold In64 at hp';have pe:jaG d p=if lenOk d=true/\1<=p/\p<=lenN d+2 then 0 else 2:=rfl
 by_cases c:lenOk d=true
 ·have hl:=jbk c;have eL:lenE d=tup2 (lenN d) 0:=by unfold lenE;rw[if_pos c]
  by_cases cp:1<=p/\p<=lenN d+2
  ·rw[if_pos ⟨c,cp⟩]at pe;rw[pe];have t1:jaC d 1=0:=by unfold jaC;rw[if_pos ⟨c,.inl rfl⟩]
   have t2:jaC d 2=0:=by unfold jaC;rw[if_pos ⟨c,.inr rfl⟩]
   have lb1:=jbu d 1;have lb2:=jbu d 2;have hB:∀{w:Int} {h:Heap},jaC d w=0->In64 w->ACalls C 74 [.int .i64 d,.int .i64 w] h (fun r h'=>∃i,h.size<=i/\r=jai (.slice i 0 (lenN d) (.known (lenN d))) 0/\HSub h h'/\h'.get i=some (.cells (ints (bitsL d w)) true 0)):=by
    intro w h e hw;refine(jqw hC hd hw).mono ?_;rintro r h' ⟨v,h1,_,_,h4⟩;obtain⟨s,_,i,hi,hv,hg⟩:=h4 e;rw[jbu]at hv;exact⟨i,hi,by rw[h1,e,hv],s,hg⟩
   have bC:∀k,(bitC d p).getD k 0=0\/(bitC d p).getD k 0=1:=fun k=>jb7 (fun x hx=>by
    obtain⟨i,_,rfl⟩:=List.mem_map.1 hx;exact jf2 d p i) k
   have lC:=jcr d p;refine zf 76 B76 hC ?_;simp only[B76,zB];refine zs ?_;refine kai (jbh hC hd) eL (zs1 @tup2.eq_1 ?_);refine kad (hB t1 (by unfold In64;omega)) ?_;rintro r h1 ⟨i1,hi1,rfl,s1,g1⟩;refine zs1 @jai.eq_1 ?_;refine kad (hB t2 (by unfold In64;omega)) ?_;rintro r h2 ⟨i2,hi2,rfl,s2,g2⟩;have hl1:=kab g1;have hl2:=kab g2;have g1':=(s2.get i1 hl1).trans g1;have s12:=s1.trans s2;have z2:=s2.size;have z1:=s1.size;by_cases p1:p=1
   ·have gi1:h2.get i1=some (.cells (ints (bitC d p)) true 0):=by rw[p1,jqx];exact g1'
    refine zs1 @jai.eq_1 ?_;have gX:h2.get i1=some (.cells (ints (jb6 (fun b=>1-2*b) (bitC d p) 0)) true 0):=by rw[jc8];exact gi1
    refine jae (fun j t h'=>∃k:Nat,HSub h h'/\i1<h'.size/\h'.get i1=some (.cells (ints (jb6 (fun b=>1-2*b) (bitC d p) k)) true 0)/\t 8=.slice i1 0 (lenN d) (.known (lenN d))/\t 68=.slice i1 0 (lenN d) (.known (lenN d))/\t 69=.int .i64 (lenN d)/\t 70=.int .i64 (k:Nat)/\k<=lenN d/\j=lenN d-k) (j0:=lenN d)
     ⟨0,s12,kab gi1,gX,rfl,rfl,rfl,rfl,by omega,rfl⟩ ?_
    rintro j t h' ⟨k,hs,hlt,hg,e8,e68,e69,e70,hk,hj⟩;have hml:=jcf (fun b=>1-2*b) (bitC d p) k;refine zs2 e69 e70 ?_;refine kaf (fun c1=>?_) (fun c1=>?_)
    ·have hk':k<(bitC d p).length:=by omega
     have hg2:=jdJ (fun b=>1-2*b) hk';have hst:=jdK (fun b=>1-2*b) hk';have b01:=bC k;refine zs6 e8 e68 e69 e70 hg hg2 ?_;exact⟨_,⟨k+1,hs.put (by omega) _,hlt,by rw[<-hst],by simp,by omega,rfl⟩,by omega⟩
    ·have:k=(bitC d p).length:=by omega
     subst this;rw[jc9]at hg;refine zs1 e8 ?_;have cl:=jaM d p;have F:Fresh h h' (.slice i1 0 (lenN d) (.known (lenN d))) (codeL d p):=⟨hs,by omega,i1,by omega,by rw[cl],hg⟩;exact⟨_,rfl,hs,by rw[if_pos trivial];exact F.ri,fun _=>F⟩
   by_cases p2:p=2
   ·have gi2:h2.get i2=some (.cells (ints (bitC d p)) true 0):=by rw[p2,jqy];exact g2
    refine zs1 @jai.eq_1 ?_;have gX:h2.get i2=some (.cells (ints (jb6 (fun b=>1-2*b) (bitC d p) 0)) true 0):=by rw[jc8];exact gi2
    refine jae (fun j t h'=>∃k:Nat,HSub h h'/\i2<h'.size/\h'.get i2=some (.cells (ints (jb6 (fun b=>1-2*b) (bitC d p) k)) true 0)/\t 8=.slice i2 0 (lenN d) (.known (lenN d))/\t 68=.slice i2 0 (lenN d) (.known (lenN d))/\t 69=.int .i64 (lenN d)/\t 70=.int .i64 (k:Nat)/\k<=lenN d/\j=lenN d-k) (j0:=lenN d)
     ⟨0,s12,kab gi2,gX,rfl,rfl,rfl,rfl,by omega,rfl⟩ ?_
    rintro j t h' ⟨k,hs,hlt,hg,e8,e68,e69,e70,hk,hj⟩;have hml:=jcf (fun b=>1-2*b) (bitC d p) k;refine zs2 e69 e70 ?_;refine kaf (fun c1=>?_) (fun c1=>?_)
    ·have hk':k<(bitC d p).length:=by omega
     have hg2:=jdJ (fun b=>1-2*b) hk';have hst:=jdK (fun b=>1-2*b) hk';have b01:=bC k;refine zs6 e8 e68 e69 e70 hg hg2 ?_;exact⟨_,⟨k+1,hs.put (by omega) _,hlt,by rw[<-hst],by simp,by omega,rfl⟩,by omega⟩
    ·have:k=(bitC d p).length:=by omega
     subst this;rw[jc9]at hg;refine zs1 e8 ?_;have cl:=jaM d p;have F:Fresh h h' (.slice i2 0 (lenN d) (.known (lenN d))) (codeL d p):=⟨hs,by omega,i2,by omega,by rw[cl],hg⟩;exact⟨_,rfl,hs,by rw[if_pos trivial];exact F.ri,fun _=>F⟩
   have hp3:3<=p:=by omega
   have lP:=codeP_length d p;have g0:h2.get i1=some (.cells (ints (codeP d p 0)) true 0):=by rw[joX];exact g1'
   refine zs1 @jai.eq_1 ?_;refine jae (fun j t h'=>∃k:Nat,HSub h h'/\i1<h'.size/\h'.get i1=some (.cells (ints (codeP d p k)) true 0)/\h'.get i2=some (.cells (ints (bitsL d 2)) true 0)/\t 1=.int .i64 p/\t 6=.int .i64 (lenN d)/\t 8=.slice i1 0 (lenN d) (.known (lenN d))/\t 10=.slice i2 0 (lenN d) (.known (lenN d))/\
     t 42=.slice i1 0 (lenN d) (.known (lenN d))/\t 43=.int .i64 (lenN d)/\t 44=.int .i64 (k:Nat)/\k<=lenN d/\j=lenN d-k) (j0:=lenN d)
    ⟨0,s12,by omega,g0,g2,rfl,rfl,rfl,rfl,rfl,rfl,rfl,by omega,rfl⟩ ?_
   rintro j t h3 ⟨k,hs3,hlt3,hg1,hg2,e1,e6,e8,e10,e42,e43,e44,hk,hj⟩;have lPk:=lP k;refine zs2 e43 e44 ?_;refine kaf (fun c1=>?_) (fun c1=>?_)
   ·have hk':k<lenN d:=by omega
    have gP:(codeP d p k).getD k 0=(bitsL d 1).getD k 0:=by rw[jeE hk',if_neg (by omega)]
    have em:((k:Int)+p-3)% (lenN d:Int)=(((k+(p-3).toNat)% lenN d:Nat):Int):=by
     rw[show(k:Int)+p-3=((k+(p-3).toNat:Nat):Int)by omega];exact(Int.natCast_emod _ _).symm
    have hm:(k+(p-3).toNat)% lenN d<lenN d:=Nat.mod_lt _ (by omega);have lb2:=jbu d 2;have ex:=xor01 (jb7 (jed (d:=d) (w:=1)) k) (jb7 (jed (d:=d) (w:=2)) ((k+(p-3).toNat)% lenN d));have hcb:codeB d p k=((bitsL d 1).getD k 0+(bitsL d 2).getD ((k+(p-3).toNat)% lenN d) 0)% 2:=by unfold codeB;rw[if_neg p1,if_neg p2]
    rw[<-hcb]at ex;have hst:=jqz (p:=p) hk';refine zs7 e1 e6 e8 e10 e42 e43 (zI e44 (zI hg1 (zI hg2 (zI gP (zI em (zI ex hst)))))) ?_;exact⟨_,⟨k+1,hs3.put (by omega) _,hlt3,rfl,by simp,by omega,rfl⟩,by omega⟩
   ·have ek:k=lenN d:=by omega
    rw[ek]at hg1;have gi3:h3.get i1=some (.cells (ints (bitC d p)) true 0):=by rw[<-joY];exact hg1
    refine zs1 e8 ?_;have gX:h3.get i1=some (.cells (ints (jb6 (fun b=>1-2*b) (bitC d p) 0)) true 0):=by rw[jc8];exact gi3
    refine jae (fun j t h'=>∃k:Nat,HSub h h'/\i1<h'.size/\h'.get i1=some (.cells (ints (jb6 (fun b=>1-2*b) (bitC d p) k)) true 0)/\t 8=.slice i1 0 (lenN d) (.known (lenN d))/\t 68=.slice i1 0 (lenN d) (.known (lenN d))/\t 69=.int .i64 (lenN d)/\t 70=.int .i64 (k:Nat)/\k<=lenN d/\j=lenN d-k) (j0:=lenN d)
     ⟨0,hs3,kab gi3,gX,e8,rfl,rfl,rfl,by omega,rfl⟩ ?_
    rintro j u h' ⟨k,hs,hlt,hg,f8,e68,e69,e70,hk,hj⟩;have hml:=jcf (fun b=>1-2*b) (bitC d p) k;refine zs2 e69 e70 ?_;refine kaf (fun c1=>?_) (fun c1=>?_)
    ·have hk':k<(bitC d p).length:=by omega
     have hg2:=jdJ (fun b=>1-2*b) hk';have hst:=jdK (fun b=>1-2*b) hk';have b01:=bC k;refine zs6 f8 e68 e69 e70 hg hg2 ?_;exact⟨_,⟨k+1,hs.put (by omega) _,hlt,by rw[<-hst],by simp,by omega,rfl⟩,by omega⟩
    ·have:k=(bitC d p).length:=by omega
     subst this;rw[jc9]at hg;refine zs1 f8 ?_;have cl:=jaM d p;have F:Fresh h h' (.slice i1 0 (lenN d) (.known (lenN d))) (codeL d p):=⟨hs,by omega,i1,by omega,by rw[cl],hg⟩;exact⟨_,rfl,hs,by rw[if_pos trivial];exact F.ri,fun _=>F⟩
  ·have cp':¬(lenOk d=true/\1<=p/\p<=lenN d+2):=fun h=>cp h.2;rw[if_neg cp']at pe;rw[pe];refine zf 76 B76 hC ?_;simp only[B76,zB];refine zs ?_;refine kai (jbh hC hd) eL (zs1 @tup2.eq_1 ?_)
   (repeat' (first|(refine kaf (fun _=>?_) (fun _=>?_))|(refine zs ?_)))
   all_goals first|exact⟨.nilslice,by rw[jai],kag _,by rw[if_neg id];exact kav⟩|omega
 ·have eL:lenE d=tup2 0 2:=by unfold lenE;rw[if_neg c]
  have cp':¬(lenOk d=true/\1<=p/\p<=lenN d+2):=fun h=>c h.1;rw[if_neg cp']at pe;rw[pe];refine zf 76 B76 hC ?_;simp only[B76,zB];refine zs ?_;refine kai (jbh hC hd) eL (zs1 @tup2.eq_1 ?_);exact⟨.nilslice,by rw[jai],kag _,by rw[if_neg id];exact kav⟩
def codeK(d p:Int)(k:Nat):List Int:=(codeL d p).take k++List.replicate (lenN d-k) 0
theorem jlF{p:Int}{k:Nat}(h:k<=lenN d):(codeK d p k).length=lenN d:=by simp[codeK,jaM];omega
theorem jif{p:Int}{k:Nat}(h:k<lenN d):(codeL d p).getD k 0=1-2*codeB d p k:=by simp[codeL,bitC,h]
theorem jqB{p:Int}{k:Nat}(h:k<lenN d):(codeK d p k).set k (1-2*codeB d p k)=codeK d p (k+1):=by
 unfold codeK;have cl:=jaM d p;have hl:((codeL d p).take k).length=k:=by simp[cl];omega
 rw[List.set_append_right _ _ (by omega),hl,Nat.sub_self,show lenN d-k=lenN d-(k+1)+1 by omega,List.replicate_succ,List.set_cons_zero,jap (by omega),jif h,List.append_assoc];rfl
theorem joZ(d p:Int):codeK d p (lenN d)=codeL d p:=by
 have cl:=jaM d p;simp[codeK,<-cl]
theorem jmO{p:Int}:∀x∈codeL d p,-1<=x/\x<=1:=by
 intro x hx;obtain⟨b,hb,rfl⟩:=List.mem_map.1 hx;obtain⟨i,_,rfl⟩:=List.mem_map.1 hb;have:=jf2 d p i;omega
theorem jjw(hC:Has C TA){p:Int}(hd:In64 d)(hp:In64 p):ACalls C 77 [.int .i64 d,.int .i64 p] h (fun r h'=>∃v,r=jai v (jaG d p)/\HSub h h'/\RI h' v (if jaG d p=0 then codeL d p else[])/\∀i∈v.ids,h.size<=i):=by
 have hp':=hp;unfold In64 at hp';have pe:jaG d p=if lenOk d=true/\1<=p/\p<=lenN d+2 then 0 else 2:=rfl
 by_cases c:lenOk d=true
 ·have hl:=jbk c;have eL:lenE d=tup2 (lenN d) 0:=by unfold lenE;rw[if_pos c]
  by_cases cp:1<=p/\p<=lenN d+2
  ·rw[if_pos ⟨c,cp⟩]at pe;rw[pe];have t1:jaC d 1=0:=by unfold jaC;rw[if_pos ⟨c,.inl rfl⟩]
   have t2:jaC d 2=0:=by unfold jaC;rw[if_pos ⟨c,.inr rfl⟩]
   have lb1:=jbu d 1;have lb2:=jbu d 2;have hB:∀{w:Int} {h:Heap},jaC d w=0->In64 w->ACalls C 75 [.int .i64 d,.int .i64 w] h (fun r h'=>∃v,r=jai v 0/\HSub h h'/\RI h' v (bitsL d w)):=by
    intro w h e hw;refine(jmN hC hd hw).mono ?_;rintro r h' ⟨v,h1,h2,h3⟩;rw[e,if_pos rfl]at h3;exact⟨v,by rw[h1,e],h2,h3⟩
   refine zf 77 B77 hC ?_;simp only[B77,zB];refine zs ?_;refine kai (ja3 hC hd) eL (zs1 @tup2.eq_1 ?_);refine kad (hB t1 (by unfold In64;omega)) ?_;rintro r h1 ⟨v1,rfl,s1,R1⟩;refine zs1 @jai.eq_1 ?_;refine kad (hB t2 (by unfold In64;omega)) ?_;rintro r h2 ⟨v2,rfl,s2,R2⟩;have R1:=R1.mono s2;have s12:=s1.trans s2;refine zs2 @jai.eq_1 @ja0 ?_;refine jae (fun j t h'=>∃k:Nat,h'=h2.push (.cells (ints (codeK d p k)) true 0)/\t 1=.int .i64 p/\t 6=.int .i64 (lenN d)/\t 8=v1/\t 10=v2/\t 12=.slice h2.size 0 (lenN d) (.known (lenN d))/\t 13=.int .i64 (k:Nat)/\k<=lenN d/\j=lenN d-k) (j0:=lenN d)
    ⟨0,by simp[codeK],rfl,rfl,rfl,rfl,rfl,rfl,by omega,rfl⟩ ?_
   rintro j t h3 ⟨k,rfl,e1,e6,e8,e10,e12,e13,hk,hj⟩;have lK:=jlF (p:=p) hk;refine zs2 e6 e13 ?_;refine kaf (fun c1=>?_) (fun c1=>?_)
   ·have hk':k<lenN d:=by omega
    have b1:=jb7 (jed (d:=d) (w:=1)) k;have b2:=jb7 (jed (d:=d) (w:=2)) k;have b12:=jf2 d p k;have hst:=jqB (p:=p) hk';by_cases p1:p=1
    ·have hcb:codeB d p k=(bitsL d 1).getD k 0:=by unfold codeB;rw[if_pos p1]
     rw[hcb]at hst;refine zs7 e1 e6 e8 e10 e12 e13 (zI @R1.idx (zI @R1.loadC hst)) ?_;exact⟨_,⟨k+1,rfl,by simp,by omega,rfl⟩,by omega⟩
    by_cases p2:p=2
    ·have hcb:codeB d p k=(bitsL d 2).getD k 0:=by unfold codeB;rw[if_neg p1,if_pos p2]
     rw[hcb]at hst;refine zs7 e1 e6 e8 e10 e12 e13 (zI @R2.idx (zI @R2.loadC hst)) ?_;exact⟨_,⟨k+1,rfl,by simp,by omega,rfl⟩,by omega⟩
    have em:((k:Int)+p-3)% (lenN d:Int)=(((k+(p-3).toNat)% lenN d:Nat):Int):=by
     rw[show(k:Int)+p-3=((k+(p-3).toNat:Nat):Int)by omega];exact(Int.natCast_emod _ _).symm
    have hm:(k+(p-3).toNat)% lenN d<lenN d:=Nat.mod_lt _ (by omega);have ex:=xor01 b1 (jb7 (jed (d:=d) (w:=2)) ((k+(p-3).toNat)% lenN d));have hcb:codeB d p k=((bitsL d 1).getD k 0+(bitsL d 2).getD ((k+(p-3).toNat)% lenN d) 0)% 2:=by unfold codeB;rw[if_neg p1,if_neg p2]
    rw[<-hcb]at ex;refine zs7 e1 e6 e8 e10 e12 e13 (zI @R1.idx (zI @R1.loadC (zI @R2.idx (zI @R2.loadC (zI em (zI ex hst)))))) ?_;exact⟨_,⟨k+1,rfl,by simp,by omega,rfl⟩,by omega⟩
   ·have ek:k=lenN d:=by omega
    have cl:=jaM d p;have hcf:codeK d p k=codeL d p:=by rw[ek,joZ]
    refine zs1 e12 ?_;exact⟨_,rfl,s12.push _,by rw[if_pos trivial,<-hcf];exact kah (get_push_eq rfl) ⟨by rw[lK],by omega⟩ (by omega),fun i hi=>by simp only[AV.ids,List.mem_singleton]at hi;have:=s12.size;omega⟩
  ·have cp':¬(lenOk d=true/\1<=p/\p<=lenN d+2):=fun h=>cp h.2;rw[if_neg cp']at pe;rw[pe];refine zf 77 B77 hC ?_;simp only[B77,zB];refine zs ?_;refine kai (ja3 hC hd) eL (zs1 @tup2.eq_1 ?_)
   (repeat' (first|(refine kaf (fun _=>?_) (fun _=>?_))|(refine zs ?_)))
   all_goals first|exact⟨.nilslice,by rw[jai],kag _,by rw[if_neg id];exact kav,by simp[AV.ids]⟩|omega
 ·have eL:lenE d=tup2 0 2:=by unfold lenE;rw[if_neg c]
  have cp':¬(lenOk d=true/\1<=p/\p<=lenN d+2):=fun h=>c h.1;rw[if_neg cp']at pe;rw[pe];refine zf 77 B77 hC ?_;simp only[B77,zB];refine zs ?_;refine kai (ja3 hC hd) eL (zs1 @tup2.eq_1 ?_);exact⟨.nilslice,by rw[jai],kag _,by rw[if_neg id];exact kav,by simp[AV.ids]⟩
theorem jfr(hC:Has C TA){p:Int}(hd:In64 d)(hp:In64 p):ACalls C 77 [.int .i64 d,.int .i64 p] h (fun r h'=>∃v,r=jai v (jaG d p)/\HSub h h'/\RI h' v (if jaG d p=0 then codeL d p else[])):=
 (jjw hC hd hp).mono fun r h' ⟨v,a,b,c,_⟩=>⟨v,a,b,c⟩
def jax(d o:Int):Int:=if lenOk d=true/\1<=o/\o<=8 then 0 else 2
def sampL(d p:Int)(o:Nat):List Int:=((codeL d p).map fun x=>List.replicate o x).flatten
def sampP(d p:Int)(o k:Nat):List Int:=(((codeL d p).take k).map fun x=>List.replicate o x).flatten
theorem jgE{p:Int}{o k:Nat}(h:k<(codeL d p).length):sampP d p o (k+1)=sampP d p o k++List.replicate o ((codeL d p).getD k 0):=by
 unfold sampP;rw[jap h];simp
theorem jdl{d p:Int}{o:Nat}:∀k,k<=(codeL d p).length->(sampP d p o k).length=k*o
 |0,_=>by simp[sampP]
 |k+1,h=>by rw[jgE (by omega),List.length_append,jdl k (by omega),List.length_replicate,Nat.add_mul,Nat.one_mul]
theorem jgF(d p:Int)(o:Nat):sampP d p o (codeL d p).length=sampL d p o:=by unfold sampP sampL;rw[List.take_length]
theorem jb8(hC:Has C TA){o:Int}(hd:In64 d)(ho:In64 o):ACalls C 150 [.int .i64 d,.int .i64 o] h (fun r h'=>r=.int .i64 (jax d o)/\h'=h):=by
 unfold In64 at ho;by_cases c:lenOk d=true
 ·have e:lenE d=tup2 (lenN d) 0:=by unfold lenE;rw[if_pos c]
  by_cases co:1<=o/\o<=8
  ·have pe:jax d o=0:=by unfold jax;rw[if_pos ⟨c,co⟩]
   rw[pe];refine zf 150 B150 hC ?_;simp only[B150,zB];refine zs ?_;refine kai (jbh hC hd) e ?_;exact ze1 @tup2.eq_1
  ·have pe:jax d o=2:=by unfold jax;rw[if_neg (fun h=>co h.2)]
   rw[pe];refine zf 150 B150 hC ?_;simp only[B150,zB];refine zs ?_;refine kai (jbh hC hd) e (zs1 @tup2.eq_1 ?_)
   (repeat' (first|(refine kaf (fun _=>?_) (fun _=>?_))|(exact ze)))
   all_goals omega
 ·have e:lenE d=tup2 0 2:=by unfold lenE;rw[if_neg c]
  have pe:jax d o=2:=by unfold jax;rw[if_neg (fun h=>c h.1)]
  rw[pe];refine zf 150 B150 hC ?_;simp only[B150,zB];refine zs ?_;refine kai (jbh hC hd) e ?_;exact ze1 @tup2.eq_1
def Dj(v w:AV):Prop:=∀i,i∈v.ids->i∉w.ids
theorem kbU{w:AV}:Dj .nilslice w:=fun i hi=>by simp[AV.ids]at hi
theorem kby:Dj v .nilslice:=fun i _=>by simp[AV.ids]
section
variable {h0 h H : Heap} {sz sz' n m k k' : Nat} {v w : AV} {cs ds es : List AV} {c : Cap} {x : Int} {l l' : List Int}
theorem kbm(B:Grw h0 h sz w n ds)(hk:h.size<=k):Dj w (.slice k 0 k' c):=by
 obtain⟨_,_,_,⟨rfl,rfl⟩|⟨i,ex,hi,rfl,hg⟩⟩:=B
 ·exact kbU
 ·intro j hj;have:=kab hg;simp only[AV.ids,List.mem_singleton]at hj|-;omega
theorem ka3(A:Grw h0 h sz' v m es)(B:Grw h0 h sz w n ds)(hs:HSub h H)(hd:Dj w v):Grw h0 (snocH H none v sz' cs) sz w n ds:=by
 have hsub:HSub h0 (snocH H none v sz' cs):=by
  obtain⟨h1,_,_,⟨rfl,rfl⟩|⟨i,ex,hi,rfl,hg⟩⟩:=A
  ·exact(h1.trans hs).push _
  ·exact((h1.trans hs).put hi _).push _
 obtain⟨h1,hl,hn,⟨rfl,rfl⟩|⟨i,ex,hi,rfl,hg⟩⟩:=B
 ·exact⟨hsub,hl,hn,.inl ⟨rfl,rfl⟩⟩
 ·refine⟨hsub,hl,hn,.inr ⟨i,ex,hi,rfl,?_⟩⟩;have hlt:=kab hg;have hsz:=hs.size;have hH:=(hs.get i hlt).trans hg;obtain⟨_,_,_,⟨rfl,rfl⟩|⟨j,ex',hj,rfl,hg'⟩⟩:=A
  ·exact(get_push_lt (by omega)).trans hH
  ·have hne:i≠j:=fun e=>hd i (by simp[AV.ids]) (by simp[AV.ids,e]);exact(get_push_lt (by simp only[Heap.size_put];omega)).trans ((get_put_ne hne).trans hH)
theorem jo0:(snocH H nid v sz cs).size=H.size+if nid.isNone then 1 else 0:=by
 unfold snocH;cases v<;>cases nid<;>rfl
end
section
variable {h0 h H : Heap} {sz bytes n m k j x y : Nat} {v : AV} {cs news : List AV} {l : List (Int × Int)} {li : List Int}
theorem Grw.ids_lt(A:Grw h0 h sz v n cs):∀i∈v.ids,h0.size<=i/\i<h.size:=by
 obtain⟨_,_,_,⟨rfl,rfl⟩|⟨i,ex,hi,rfl,hg⟩⟩:=A
 ·intro i hi;simp[AV.ids]at hi
 ·intro j hj;simp only[AV.ids,List.mem_singleton]at hj;subst hj;exact⟨hi,kab hg⟩
theorem kbc(A:Grw h0 h sz v n cs)(hg:∀i∈v.ids,H.get i=h.get i)(hk:h.size<=k/\k<H.size)(hm:m≠0)(hb:(n+m)*bytes<=1099511627776)(h1:news.all AV.one=true):
  jav H (some k) sz bytes v m news=appK k H v (.slice k 0 (n+m) (.unk 0)) sz (cs++news) (H.get k):=by
 obtain⟨_,hl,hn,⟨rfl,rfl⟩|⟨i,ex,hi,rfl,hgi⟩⟩:=A
 ·have:cs=[]:=List.eq_nil_of_length_eq_zero (by omega);subst this;exact kbp (h0:=kaY) (h:=kaY) (cs:=[]) (n:=0) ⟨kag _,by simp,by omega,.inl ⟨rfl,rfl⟩⟩ ⟨Nat.zero_le _,fun i hi=>absurd hi (Nat.not_lt_zero i)⟩ ⟨Nat.zero_le _,hk.2⟩ hm hb h1
 ·have e0:=(hg i (by simp[AV.ids])).trans hgi;have hlt:=kab hgi;have hr:H.room (some k)=((H.get k).isNone&&decide (k<H.size)):=rfl;simp only[jav,e0];by_cases e:(H.get k).isNone=true
  ·have e':H.get k=none:=by simpa using e
   rw[if_pos ⟨trivial,by omega,by rw[List.length_append];omega,h1,hb,by rw[hr,e];simpa using hk.2,by omega⟩,jkd hl];exact(congrArg (appK k H (.slice i 0 n (.unk 0)) (.slice k 0 (n+m) (.unk 0)) sz (cs++news)) e').symm
  ·rw[if_neg (by rw[hr];simp[e]),if_neg (by omega)];obtain⟨b,e'⟩:∃b,H.get k=some b:=by cases x:H.get k with|none=>simp[x]at e|some b=>exact⟨b,rfl⟩
   exact(congrArg (appK k H (.slice i 0 n (.unk 0)) (.slice k 0 (n+m) (.unk 0)) sz (cs++news)) e').symm
theorem jeU:(snocH H (some k) v sz cs).size=H.size:=by unfold snocH;cases v<;>rfl
theorem jgG(hk:k<H.size):(snocH H (some k) v sz cs).get k=some (.cells cs true sz):=by
 unfold snocH;cases v<;>exact get_put_eq rfl (by simpa using hk)
theorem jee(hk:j≠k)(hv:j∉v.ids):(snocH H (some k) v sz cs).get j=H.get j:=by
 unfold snocH;cases v
 case slice i o n c=>exact(get_put_ne hk).trans (get_put_ne (fun e=>hv (by simp[AV.ids,e])))
 all_goals exact get_put_ne hk
theorem jig{hB:Heap}(A:Grw hB h sz v n cs){ds:List AV}(hs:HSub hB H)(hk:hB.size<=k):HSub hB (snocH H (some k) v sz ds):=by
 obtain⟨_,_,_,⟨rfl,rfl⟩|⟨i,ex,hi,rfl,hg⟩⟩:=A
 ·exact hs.put hk _
 ·exact(hs.put hi _).put hk _
theorem SL.fldE(A:SL h sz v n cs):∀(k off:Nat),k<n->jb4 off (elA sz v k)=some (elF sz v k off):=by
 intro k off hk;obtain⟨_,_,⟨rfl,h1⟩|⟨i,o,c,vs,wr,u,rfl,_⟩⟩:=A
 ·omega
 ·rfl
theorem SL.loadE(A:SL h sz v n cs){k off:Nat}(hk:k<n)(ho:off<sz):Ae.loadA h false 1 (elF sz v k off)=cs[k*sz+off]? :=by
 obtain⟨hl,hlt,⟨rfl,h1⟩|⟨i,o,c,vs,wr,u,rfl,hg,hle,hc,_⟩⟩:=A
 ·omega
 ·have h1:(k+1)*sz<=n*sz:=Nat.mul_le_mul_right sz hk;have h2:(k+1)*sz=k*sz+sz:=by rw[Nat.add_mul,Nat.one_mul]
  rw[<-hc,cut,List.getElem?_take_of_lt (by omega),List.getElem?_drop];simp only[elF,Ae.loadA,hg,partA,Bool.false_eq_true,if_false];rw[Nat.add_assoc]
theorem ka0{K:HoldR}(q:∀S,S=H->@opt2 (jav S nid sz bytes v m news) K): @opt2 (jav H nid sz bytes v m news) K:=q H rfl
end
end Go.Ae
