/- Texts of the proof, part 11: a second reading of the lowered code, proved sound, and what the functions compute. -/
import Derived.WalkKit
import Derived.ProofKit
import Derived.Test.YtkbkpjinekcnhaaGreatF10
set_option linter.unusedSimpArgs false
set_option linter.unusedVariables false
set_option maxRecDepth 20000
set_option maxHeartbeats 4000000
namespace Go.Ae
variable {C : Ctx} {h h' : Heap} {args : List AV} {g : Nat}
open Go.RowKit
end Go.Ae
namespace Go.Ae
variable {C : Ctx} {h h' : Heap} {args : List AV} {g : Nat}
class Hold where
 run:Prop
class HoldR where
 run:AV->Heap->Prop
def Br(c:Prop) [p:Hold] [q:Hold]:Prop:=(c->p.run)/\(¬c->q.run)
theorem kaf{c:Prop}{p q:Prop}(h1:c->p)(h2:¬c->q): @Br c ⟨p⟩ ⟨q⟩:=⟨h1,h2⟩
theorem Br_pos{c:Prop}{p q:Prop}(h:c): @Br c ⟨p⟩ ⟨q⟩=p:=by simp[Br,h]
theorem Br_neg{c:Prop}{p q:Prop}(h:¬c): @Br c ⟨p⟩ ⟨q⟩=q:=by simp[Br,h]
def condV(v:AV) [p:Hold] [q:Hold]:Prop:=condP v p.run q.run
theorem condV_true{p q:Prop}: @condV (.bool true) ⟨p⟩ ⟨q⟩=p:=by simp[condV,condP]
theorem condV_false{p q:Prop}: @condV (.bool false) ⟨p⟩ ⟨q⟩=q:=by simp[condV,condP]
theorem condV_dec{c:Prop} [Decidable c] {p q:Prop}: @condV (.bool (decide c)) ⟨p⟩ ⟨q⟩=@Br c ⟨p⟩ ⟨q⟩:=by
 simp[condV,condP,Br]
theorem condV_var{b:Bool}{p q:Prop}: @condV (.bool b) ⟨p⟩ ⟨q⟩=@Br (b=true) ⟨p⟩ ⟨q⟩:=by
 simp[condV,condP,Br]
theorem Br_not{b:Bool}{p q:Prop}: @Br ((!b)=true) ⟨p⟩ ⟨q⟩=@Br (b=true) ⟨q⟩ ⟨p⟩:=by cases b<;>simp[Br]
def gV(v:AV)(w:Bool) [p:Hold] [q:Hold]:Prop:=
 match v with
 |.bool c=>(c=w->p.run)/\(c= !w->q.run)
 |_=>q.run
theorem gV_tt{p q:Prop}: @gV (.bool true) true ⟨p⟩ ⟨q⟩=p:=by simp[gV]
theorem gV_tf{p q:Prop}: @gV (.bool true) false ⟨p⟩ ⟨q⟩=q:=by simp[gV]
theorem gV_ft{p q:Prop}: @gV (.bool false) true ⟨p⟩ ⟨q⟩=q:=by simp[gV]
theorem gV_ff{p q:Prop}: @gV (.bool false) false ⟨p⟩ ⟨q⟩=p:=by simp[gV]
theorem gV_dt{c:Prop} [Decidable c] {p q:Prop}: @gV (.bool (decide c)) true ⟨p⟩ ⟨q⟩=@Br c ⟨p⟩ ⟨q⟩:=by simp[gV,Br]
theorem gV_df{c:Prop} [Decidable c] {p q:Prop}: @gV (.bool (decide c)) false ⟨p⟩ ⟨q⟩=@Br c ⟨q⟩ ⟨p⟩:=by
 simp only[gV,Br,decide_eq_false_iff_not,Bool.not_false,decide_eq_true_eq];exact propext And.comm
theorem gV_vt{b:Bool}{p q:Prop}: @gV (.bool b) true ⟨p⟩ ⟨q⟩=@Br (b=true) ⟨p⟩ ⟨q⟩:=by cases b<;>simp[gV,Br]
theorem gV_vf{b:Bool}{p q:Prop}: @gV (.bool b) false ⟨p⟩ ⟨q⟩=@Br (b=true) ⟨q⟩ ⟨p⟩:=by cases b<;>simp[gV,Br]
section
variable {C : Ctx}
def Call(C:Ctx)(f:AV)(args:List AV)(h:Heap) [K:HoldR]:Prop:=callP C f args h K.run
def jaa(C:Ctx)(g:Nat)(args:List AV)(h:Heap) [K:HoldR]:Prop:=ACalls C g args h K.run
theorem Call_func{g:Nat}{args:List AV}{h:Heap}{K:AV->Heap->Prop}: @Call C (.func g [] []) args h ⟨K⟩=@jaa C g args h ⟨K⟩:=by
 simp[Call,jaa,callP]
theorem Call_clo{g:Nat}{f c args:List AV}{h:Heap}{K:AV->Heap->Prop}: @Call C (.func g f c) args h ⟨K⟩=@jaa C g (f++args++c) h ⟨K⟩:=rfl
def jd8(C:Ctx)(l:Nat)(args:List AV)(h:Heap) [K:HoldR]:Prop:=jfR C l args h K.run
theorem Call_yield{l:Nat}{args:List AV}{h:Heap}{K:AV->Heap->Prop}: @Call C (.yield l) args h ⟨K⟩=@jd8 C l args h ⟨K⟩:=rfl
theorem kaE{l:Nat}{P:AV->Heap->Prop}{K:AV->Heap->Prop}(hc:jfR C l args h P)(hk:∀r h',P r h'->K r h'): @jd8 C l args h ⟨K⟩:=jb3 (f:=.yield l) hk hc
theorem kad{P:AV->Heap->Prop}{K:AV->Heap->Prop}(hc:ACalls C g args h P)(hk:∀r h',P r h'->K r h'): @jaa C g args h ⟨K⟩:=hc.mono hk
theorem kaa{r:AV}{K:AV->Heap->Prop}(hc:ACalls C g args h fun r' h''=>r'=r/\h''=h')(hk:K r h'): @jaa C g args h ⟨K⟩:=hc.mono fun _ _ ⟨a,b⟩=>by rw[a,b];exact hk
variable {nt : Nat} {rd : Option Nat}
theorem wp_seq{a b Q st}:wp C nt rd (.seq a b) Q st=wp C nt rd a (thenO (wp C nt rd b Q) Q) st:=rfl
theorem wp_region{ops Q st}:wp C nt rd (.region ops) Q st=wpOps C ops (Q .normal) st:=rfl
theorem wp_draw{n ds Q st}:wp C nt rd (.draw n ds) Q st=jhW C n ds (Q .normal) st:=rfl
theorem wp_cond{c a b Q st}:wp C nt rd (.cond c a b) Q st=@condV (c.ev st.t) ⟨wp C nt rd a Q st⟩ ⟨wp C nt rd b Q st⟩:=rfl
theorem wp_block{id c Q st}:wp C nt rd (.block id c) Q st=wp C nt rd c (jcD id Q) st:=rfl
theorem wp_skip{Q st}:wp C nt rd .skip Q st=Q .normal st:=rfl
theorem wp_exit{id Q st}:wp C nt rd (.exit id) Q st=Q (.exit id) st:=rfl
theorem wp_ret{Q st}:wp C nt rd .ret Q st=Q .ret st:=rfl
theorem wp_range{f ps a b Q st}:wp C nt rd (.rangeFunc f ps a b) Q st=jfk C nt rd (f.ev st.t) ps a b Q st:=rfl
theorem thenO_normal{K Q st}:thenO K Q .normal st=K st:=rfl
theorem thenO_exit{K Q id st}:thenO K Q (.exit id) st=Q (.exit id) st:=rfl
theorem thenO_ret{K Q st}:thenO K Q .ret st=Q .ret st:=rfl
theorem blockO_same{i Q st}:jcD i Q (.exit i) st=Q .normal st:=by simp[jcD]
theorem blockO_other{i j Q st}(h:(j==i)=false):jcD i Q (.exit j) st=Q (.exit j) st:=by simp at h;simp[jcD,h]
theorem blockO_normal{i Q st}:jcD i Q .normal st=Q .normal st:=rfl
theorem blockO_ret{i Q st}:jcD i Q .ret st=Q .ret st:=rfl
theorem retO_ret{res Post t h}:retO res Post .ret ⟨t,h,[]⟩=(match resA t h res with|some vs=>Post (retA vs) h|none=>False):=rfl
theorem retO_normal{res Post t h}:retO res Post .normal ⟨t,h,[]⟩=(match resA t h res with|some vs=>Post (retA vs) h|none=>False):=rfl
theorem resA_nil{t h}:resA t h []=some []:=rfl
theorem resA_tmp{t h s rs}:resA t h (.tmp s::rs)=(match resA t h rs with|some vs=>some (t s::vs)|none=>none):=by
 simp only[resA];cases resA t h rs<;>rfl
theorem resA_cell{t h s agg n rs}:resA t h (.cell s agg n::rs)=(match loadA h agg n (t s),resA t h rs with|some v,some vs=>some (v::vs)|_,_=>none):=rfl
theorem retA_one{v}:retA [v]=v:=rfl
theorem retA_two{u v}:retA [u,v]=.tuple [u,v]:=rfl
theorem retA_three{u v x}:retA [u,v,x]=.tuple [u,v,x]:=rfl
theorem retA_four{u v x y}:retA [u,v,x,y]=.tuple [u,v,x,y]:=rfl
theorem retA_zero:retA []=.tuple []:=rfl
theorem wpOps_nil{K st}:wpOps C [] K st=K st:=rfl
theorem wpOps_cons{d op os K st}:wpOps C (⟨d,op,none⟩::os) K st=wpOp C none ⟨d,op,none⟩ (wpOps C os K) st:=rfl
theorem wpOps_guard{d op s w os K st}:wpOps C (⟨d,op,some (s,w)⟩::os) K st=@gV (st.t s) w ⟨wpOp C none ⟨d,op,some (s,w)⟩ (wpOps C os K) st⟩ ⟨wpOps C os K (st.put d .undef)⟩:=by
 simp only[wpOps,jeo,gV];cases st.t s<;>rfl
theorem put_some{t h m s v}:St.put ⟨t,h,m⟩ (some s) v=⟨upd t s v,h,m⟩:=rfl
theorem put_none{t h m v}:St.put ⟨t,h,m⟩ none v=⟨t,h,m⟩:=rfl
theorem ev_tmp{t s}:AOpd.ev t (.tmp s)=t s:=rfl
theorem ev_const{t v}:AOpd.ev t (.const v)=v:=rfl
theorem evs_nil{t}:([]:List AOpd).map (AOpd.ev t)=[]:=rfl
theorem evs_cons{t x xs}:(x::xs:List AOpd).map (AOpd.ev t)=x.ev t::xs.map (AOpd.ev t):=rfl
theorem upd_same{t s v}:upd t s v s=v:=by simp[upd]
theorem upd_ne{t s v i}(h:(i==s)=false):upd t s v i=t i:=by simp at h;simp[upd,h]
theorem argT_app{args s}:argT args s=args.getD s .undef:=rfl
def lenA:AV->Option AV
 |.slice _ _ n _=>some (.int .i64 n)
 |.nilslice=>some (.int .i64 0)
 |_=>none
def capA:AV->Option AV
 |.slice _ _ _ (.known c)=>some (.int .i64 c)
 |.nilslice=>some (.int .i64 0)
 |_=>none
def notNilA:AV->Option AV
 |.ptr i o=>some (.ptr i o)
 |.func g a c=>some (.func g a c)
 |.yield l=>some (.yield l)
 |_=>none
def eqbA(neg:Bool):AV->AV->Option AV
 |.bool a,.bool b=>some (.bool (if neg then !(a==b)else a==b))
 |_,_=>none
def eqsA(neg:Bool)(ls:List (Nat×Bool)):AV->AV->Option AV
 |.agg xs,.agg ys=>match jaB xs ys ls with|some r=>some (.bool (if neg then !r else r))|none=>none
 |_,_=>none
def eqnA(neg:Bool):AV->Option AV
 |.slice _ _ _ _=>some (.bool neg)
 |.nilslice=>some (.bool !neg)
 |_=>none
def convA(k:IntKind):AV->Option AV
 |.int _ n=>some (.int k (k.wrap n))
 |_=>none
def pickA(a b:AV):AV->Option AV
 |.bool t=>some (if t then a else b)
 |_=>none
def jb4(off:Nat):AV->Option AV
 |.ptr i o=>some (.ptr i (o+off))
 |_=>none
def jqd(agg:Bool)(off n:Nat):AV->Option AV
 |.agg vs=>partA agg vs off n
 |_=>none
def idxA(sz:Nat):AV->AV->Option AV
 |.slice b o n _,.int _ k=>if 0<=k/\k<n then some (.ptr b (o+k.toNat*sz))else none
 |_,_=>none
def jka(sz len:Nat):AV->AV->Option AV
 |.ptr b o,.int _ k=>if 0<=k/\k<len then some (.ptr b (o+k.toNat*sz))else none
 |_,_=>none
def jkb(agg:Bool)(sz len:Nat):AV->AV->Option AV
 |.agg vs,.int _ k=>if 0<=k/\k<len then partA agg vs (k.toNat*sz) sz else none
 |_,_=>none
def extA(i:Nat):AV->Option AV
 |.tuple vs=>vs[i]?
 |_=>none
def opR(nid:Option Nat)(op:AOp)(ev:AOpd->AV)(h:Heap) [K:HoldR]:Prop:=
 match aOp nid op ev h with
 |some (v,h')=>K.run v h'
 |none=>False
def opt1(o:Option AV)(h:Heap) [K:HoldR]:Prop:=
 match o with
 |some v=>K.run v h
 |none=>False
def opt2(o:Option (AV×Heap)) [K:HoldR]:Prop:=
 match o with
 |some p=>K.run p.1 p.2
 |none=>False
theorem opt1_some{v h K}: @opt1 (some v) h ⟨K⟩=K v h:=rfl
theorem opt2_some{v h K}: @opt2 (some (v,h)) ⟨K⟩=K v h:=rfl
theorem wpOp_call{nid d f args g K st}:wpOp C nid ⟨d,.call f args,g⟩ K st=@Call C (f.ev st.t) (args.map (AOpd.ev st.t)) st.h ⟨fun r h'=>K (St.put ⟨st.t,h',st.m⟩ d r)⟩:=rfl
def AOp.isCall:AOp->Bool
 |.call _ _=>true
 |_=>false
theorem wpOp_op{nid d op g K st}(h:op.isCall=false):wpOp C nid ⟨d,op,g⟩ K st=@opR nid op (AOpd.ev st.t) st.h ⟨fun v h'=>K (St.put ⟨st.t,h',st.m⟩ d v)⟩:=by
 unfold wpOp opR;dsimp only;split
 ·cases h
 ·split
  ·rename_i e;simp only[e]
  ·rename_i e;simp only[e]
theorem wpDraw_zero{ds K st}:jhW C 0 ds K st=wpD C st.h.size ds [] K st:=rfl
theorem wpDraw_some{n ds K t h m}(hn:(n==0)=false):jhW C n ds K ⟨t,h,m⟩=wpD C h.size ds [] K ⟨t,h.reserve n,m⟩:=by
 simp at hn;simp[jhW,hn]
theorem wpD_nil{base acc K st}:wpD C base [] acc K st=K st:=rfl
theorem wpD_guard{base k mem ck d op s w ds acc K st}:wpD C base (⟨k,mem,ck,⟨d,op,some (s,w)⟩⟩::ds) acc K st=
  @gV (st.t s) w ⟨wpD C base (⟨k,mem,ck,⟨d,op,none⟩⟩::ds) acc K st⟩ ⟨wpD C base ds acc K (st.put d .undef)⟩:=by
 simp only[wpD,stepD,jeo,gV];cases op<;>cases st.t s<;>rfl
theorem wpD_op{base k ck d op ds acc K st}(h:op.isCall=false):wpD C base (⟨k,false,ck,⟨d,op,none⟩⟩::ds) acc K st=
  (chkP acc ck op (AOpd.ev st.t) (base+k)/\@opR (some (base+k)) op (AOpd.ev st.t) st.h ⟨fun v h'=>wpD C base ds acc K (St.put ⟨st.t,h',st.m⟩ d v)⟩):=by
 simp only[wpD,stepD,jeo,opR,jbK];cases op<;>first|(cases h;done)|(simp only[Bool.false_eq_true,if_false];refine congrArg _ ?_;split<;>simp_all)
theorem wpD_opM{base k ck d op ds acc K st}(h:op.isCall=false):wpD C base (⟨k,true,ck,⟨d,op,none⟩⟩::ds) acc K st=
  (chkP acc ck op (AOpd.ev st.t) (base+k)/\@opR (some (base+k)) op (AOpd.ev st.t) st.h ⟨fun v h'=>wpD C base ds ((k,footA op (AOpd.ev st.t) (base+k),wrA op (AOpd.ev st.t) (base+k))::acc) K (St.put ⟨st.t,h',st.m⟩ d v)⟩):=by
 simp only[wpD,stepD,jeo,opR,jbK];cases op<;>first|(cases h;done)|(simp only[if_true];refine congrArg _ ?_;split<;>simp_all)
theorem jr7{base k mem ck d f args ds acc K st}:wpD C base (⟨k,mem,ck,⟨d,.call f args,none⟩⟩::ds) acc K st=
  @Call C (f.ev st.t) (args.map (AOpd.ev st.t)) st.h ⟨fun r h'=>chkS acc ck st.h h'/\wpD C base ds acc K (St.put ⟨st.t,h',st.m⟩ d r)⟩:=rfl
theorem chkP_nil{acc op ev n}:chkP acc [] op ev n=True:=by simp[chkP]
theorem chkP_none{ck op ev n}:chkP [] ck op ev n=True:=by simp[chkP]
def jdF(xs ys:List Nat):Prop:=∀x∈xs,x∉ys
theorem noneIn_nil{ys}:jdF [] ys=True:=by simp[jdF]
theorem noneIn_none{xs}:jdF xs []=True:=by simp[jdF]
theorem noneIn_cons{x xs ys}(h:x∉ys):jdF (x::xs) ys=jdF xs ys:=by simp[jdF,h]
theorem chkP_skip{k f w acc ck op ev n}(h:ck.contains k=false):chkP ((k,f,w)::acc) ck op ev n=chkP acc ck op ev n:=by
 have h':¬k∈ck:=by simpa using h
 simp[chkP,h']
theorem chkP_take{k f w acc ck op ev n}(h:ck.contains k=true):chkP ((k,f,w)::acc) ck op ev n=((jdF f (wrA op ev n)/\jdF w (footA op ev n))/\chkP acc ck op ev n):=by
 have h':k∈ck:=by simpa using h
 simp[chkP,h',jdF]
theorem chkS_nil{acc h h'}:chkS acc [] h h'=True:=by simp[chkS]
theorem chkS_none{ck h h'}:chkS [] ck h h'=True:=by simp[chkS]
theorem chkS_skip{k f w acc ck h h'}(hc:ck.contains k=false):chkS ((k,f,w)::acc) ck h h'=chkS acc ck h h':=by
 have hc':¬k∈ck:=by simpa using hc
 simp[chkS,hc']
theorem chkS_take{k f w acc ck h h'}(hc:ck.contains k=true):chkS ((k,f,w)::acc) ck h h'=((∀i∈f,h'.get i=h.get i)/\chkS acc ck h h'):=by
 have hc':k∈ck:=by simpa using hc
 simp[chkS,hc']
theorem ids_ptr{i o}:AV.ids (.ptr i o)=[i]:=rfl
theorem ids_slice{i o n c}:AV.ids (.slice i o n c)=[i]:=rfl
theorem ids_nil:AV.ids .nilslice=[]:=rfl
theorem ids_int{k n}:AV.ids (.int k n)=[]:=rfl
theorem ids_bool{b}:AV.ids (.bool b)=[]:=rfl
theorem ids_agg{vs}:AV.ids (.agg vs)=[]:=rfl
theorem rids_known{i o n c}:AV.rids (.slice i o n (.known c))=[]:=rfl
theorem rids_unk{i o n l}:AV.rids (.slice i o n (.unk l))=[i]:=rfl
theorem rids_nil:AV.rids .nilslice=[]:=rfl
def AOp.blind:AOp->Bool
 |.load .. |.store .. |.slice .. |.append .. |.appendMake .. |.copy .. |.alloc .. |.box .. |.buildSlice .. |.makeSlice .. |.lookup .. |.mapUpd .. |.makeMap|.makeChan=>false
 |_=>true
theorem foot_blind{op ev n}(h:op.blind=true):footA op ev n=[]:=by cases op<;>first|rfl|cases h
theorem wr_blind{op ev n}(h:op.blind=true):wrA op ev n=[]:=by cases op<;>first|rfl|cases h
theorem foot_load{agg m x ev n}:footA (.load agg m x) ev n=(ev x).ids:=rfl
theorem wr_load{agg m x ev n}:wrA (.load agg m x) ev n=[]:=rfl
theorem foot_store{m x v ev n}:footA (.store m x v) ev n=(ev x).ids:=rfl
theorem wr_store{m x v ev n}:wrA (.store m x v) ev n=(ev x).ids:=rfl
theorem foot_slice{sz x lo hi mx ev n}:footA (.slice sz x lo hi mx) ev n=(ev x).rids:=rfl
theorem wr_slice{sz x lo hi mx ev n}:wrA (.slice sz x lo hi mx) ev n=[]:=rfl
theorem foot_append{sz b s x ev n}:footA (.append sz b s x) ev n=(ev s).ids++(ev x).ids++[n]:=rfl
theorem wr_append{sz b s x ev n}:wrA (.append sz b s x) ev n=(ev s).ids++[n]:=rfl
theorem foot_alloc{z ev n}:footA (.alloc z) ev n=[n]:=rfl
theorem wr_alloc{z ev n}:wrA (.alloc z) ev n=[n]:=rfl
theorem foot_box{x ev n}:footA (.box x) ev n=[n]:=rfl
theorem wr_box{x ev n}:wrA (.box x) ev n=[n]:=rfl
theorem foot_build{m z ps ev n}:footA (.buildSlice m z ps) ev n=[n]:=rfl
theorem wr_build{m z ps ev n}:wrA (.buildSlice m z ps) ev n=[n]:=rfl
theorem foot_make{z b l c ev n}:footA (.makeSlice z b l c) ev n=[n]:=rfl
theorem wr_make{z b l c ev n}:wrA (.makeSlice z b l c) ev n=[n]:=rfl
theorem foot_copy{sz d s ev n}:footA (.copy sz d s) ev n=(ev d).ids++(ev s).ids:=rfl
theorem wr_copy{sz d s ev n}:wrA (.copy sz d s) ev n=(ev d).ids:=rfl
variable {nid : Option Nat} {ev : AOpd -> AV} {h : Heap} {K : AV -> Heap -> Prop}
theorem opR_mv{x}: @opR nid (.mv x) ev h ⟨K⟩=K (ev x) h:=rfl
theorem opR_pick{c a b}: @opR nid (.pick c a b) ev h ⟨K⟩=@opt1 (pickA (ev a) (ev b) (ev c)) h ⟨K⟩:=by
 simp only[opR,aOp,pureA,pickA,opt1];cases ev c<;>rfl
theorem opR_build{z parts}: @opR nid (.build z parts) ev h ⟨K⟩=@opt1 ((fillA z (parts.map fun p=>(p.1,p.2.1,ev p.2.2))).map .agg) h ⟨K⟩:=by
 simp only[opR,aOp,pureA,opt1];cases fillA z (parts.map fun p=>(p.1,p.2.1,ev p.2.2))<;>rfl
theorem opR_load{agg n x}: @opR nid (.load agg n x) ev h ⟨K⟩=@opt1 (loadA h agg n (ev x)) h ⟨K⟩:=by
 simp only[opR,aOp,pureA,opt1];cases loadA h agg n (ev x)<;>rfl
theorem opR_nilCheck{x}: @opR nid (.nilCheck x) ev h ⟨K⟩=@opt1 (notNilA (ev x)) h ⟨K⟩:=by
 simp only[opR,aOp,pureA,notNilA,opt1];cases ev x<;>rfl
theorem opR_bin{op x y}: @opR nid (.bin op x y) ev h ⟨K⟩=@opt1 (binA op (ev x) (ev y)) h ⟨K⟩:=by
 simp only[opR,aOp,pureA,opt1];cases binA op (ev x) (ev y)<;>rfl
theorem opR_eqb{neg x y}: @opR nid (.eqb neg x y) ev h ⟨K⟩=@opt1 (eqbA neg (ev x) (ev y)) h ⟨K⟩:=by
 simp only[opR,aOp,pureA,eqbA,opt1];cases ev x<;>cases ev y<;>rfl
theorem opR_eqn{neg x}: @opR nid (.eqn neg x) ev h ⟨K⟩=@opt1 (eqnA neg (ev x)) h ⟨K⟩:=by
 simp only[opR,aOp,pureA,eqnA,opt1];cases ev x<;>rfl
theorem opR_eqs{neg ls x y}: @opR nid (.eqs neg ls x y) ev h ⟨K⟩=@opt1 (eqsA neg ls (ev x) (ev y)) h ⟨K⟩:=by
 simp only[opR,aOp,pureA,opt1];cases ev x<;>cases ev y<;>simp only[eqsA,Option.map_none];rename_i xs ys;cases jaB xs ys ls<;>rfl
theorem opR_un{op x}: @opR nid (.un op x) ev h ⟨K⟩=@opt1 (unA op (ev x)) h ⟨K⟩:=by
 simp only[opR,aOp,pureA,opt1];cases unA op (ev x)<;>rfl
theorem opR_conv{k x}: @opR nid (.conv k x) ev h ⟨K⟩=@opt1 (convA k (ev x)) h ⟨K⟩:=by
 simp only[opR,aOp,pureA,convA,opt1];cases ev x<;>rfl
theorem opR_mkfunc{g a c}: @opR nid (.mkfunc g a c) ev h ⟨K⟩=K (.func g (a.map ev) (c.map ev)) h:=rfl
theorem opR_slice{sz x lo hi mx}: @opR nid (.slice sz x lo hi mx) ev h ⟨K⟩=@opt1 (jaO h sz (ev x) (lo.map ev) (hi.map ev) (mx.map ev)) h ⟨K⟩:=by
 simp only[opR,aOp,pureA,opt1];cases jaO h sz (ev x) (lo.map ev) (hi.map ev) (mx.map ev)<;>rfl
theorem opR_fieldAddr{off x}: @opR nid (.fieldAddr off x) ev h ⟨K⟩=@opt1 (jb4 off (ev x)) h ⟨K⟩:=by
 simp only[opR,aOp,pureA,jb4,opt1];cases ev x<;>rfl
theorem opR_field{agg off n x}: @opR nid (.field agg off n x) ev h ⟨K⟩=@opt1 (jqd agg off n (ev x)) h ⟨K⟩:=by
 simp only[opR,aOp,pureA,opt1];cases ev x<;>simp only[jqd,Option.map_none];rename_i vs;cases partA agg vs off n<;>rfl
theorem opR_indexAddr{sz x i}: @opR nid (.indexAddr sz x i) ev h ⟨K⟩=@opt1 (idxA sz (ev x) (ev i)) h ⟨K⟩:=by
 simp only[opR,aOp,pureA,opt1];cases ev x<;>cases ev i<;>simp only[idxA,Option.map_none];rename_i b o n c kk k;by_cases hk:0<=k/\k<n
 ·simp only[if_pos hk];rfl
 ·simp only[if_neg hk];rfl
theorem opR_indexArr{sz len x i}: @opR nid (.indexArr sz len x i) ev h ⟨K⟩=@opt1 (jka sz len (ev x) (ev i)) h ⟨K⟩:=by
 simp only[opR,aOp,pureA,opt1];cases ev x<;>cases ev i<;>simp only[jka,Option.map_none];rename_i b o kk k;by_cases hk:0<=k/\k<len
 ·simp only[if_pos hk];rfl
 ·simp only[if_neg hk];rfl
theorem opR_index{agg sz len x i}: @opR nid (.index agg sz len x i) ev h ⟨K⟩=@opt1 (jkb agg sz len (ev x) (ev i)) h ⟨K⟩:=by
 simp only[opR,aOp,pureA,opt1];cases ev x<;>cases ev i<;>simp only[jkb,Option.map_none];rename_i vs kk k;by_cases hk:0<=k/\k<len
 ·simp only[if_pos hk];cases partA agg vs (k.toNat*sz) sz<;>rfl
 ·simp only[if_neg hk];rfl
theorem opR_extract{x i}: @opR nid (.extract x i) ev h ⟨K⟩=@opt1 (extA i (ev x)) h ⟨K⟩:=by
 simp only[opR,aOp,pureA,opt1];cases ev x<;>simp only[extA,Option.map_none];rename_i vs;cases vs[i]? <;>rfl
theorem opR_len{x}: @opR nid (.len x) ev h ⟨K⟩=@opt1 (lenA (ev x)) h ⟨K⟩:=by
 simp only[opR,aOp,pureA,lenA,opt1];cases ev x<;>rfl
theorem opR_cap{x}: @opR nid (.cap x) ev h ⟨K⟩=@opt1 (capA (ev x)) h ⟨K⟩:=by
 simp only[opR,aOp,pureA,opt1];cases ev x with
 |slice i o n c=>cases c<;>rfl
 |_=>rfl
theorem opR_max{xs}: @opR nid (.max xs) ev h ⟨K⟩=@opt1 (maxA (xs.map ev)) h ⟨K⟩:=by
 simp only[opR,aOp,pureA,opt1];cases maxA (xs.map ev)<;>rfl
theorem opR_min{xs}: @opR nid (.min xs) ev h ⟨K⟩=@opt1 (minA (xs.map ev)) h ⟨K⟩:=by
 simp only[opR,aOp,pureA,opt1];cases minA (xs.map ev)<;>rfl
def jh7(nid:Option Nat)(z:List AV)(h:Heap):Option (AV×Heap):=if h.room nid=true then some (.ptr (h.nid nid) 0,h.new nid (.cells z true 0))else none
def jc5(nid:Option Nat)(n:Nat)(cs:Option (List AV))(h:Heap):Option (AV×Heap):=
 match cs with
 |some cs=>if h.room nid=true then some (.slice (h.nid nid) 0 n (.known n),h.new nid (.cells cs true 0))else none
 |none=>none
def storeOA:Option Heap->Option (AV×Heap)
 |some h=>some (.undef,h)
 |none=>none
def makeA(nid:Option Nat)(z:List AV)(bytes:Nat)(h:Heap):AV->AV->Option (AV×Heap)
 |.int _ l,.int _ c=>if 0<=l/\l<=c/\c*bytes<=2^47/\c<=2^47/\h.room nid=true then some (.slice (h.nid nid) 0 l.toNat (.known c.toNat),h.new nid (.cells (jbo c.toNat z) true 0))else none
 |_,_=>none
def appA(nid:Option Nat)(sz bytes:Nat)(h:Heap)(s:AV):Option (Nat×List AV)->Option (AV×Heap)
 |some (m,news)=>jav h nid sz bytes s m news
 |none=>none
theorem opR_alloc{z}: @opR nid (.alloc z) ev h ⟨K⟩=@opt2 (jh7 nid z h) ⟨K⟩:=by
 simp only[opR,aOp,jh7,opt2];split<;>(rename_i e;split at e)<;>simp_all
theorem opR_box{x}: @opR nid (.box x) ev h ⟨K⟩=@opt2 (jh7 nid (ev x).cells h) ⟨K⟩:=by
 simp only[opR,aOp,jh7,opt2];split<;>(rename_i e;split at e)<;>simp_all
theorem opR_buildSlice{n z parts}: @opR nid (.buildSlice n z parts) ev h ⟨K⟩=@opt2 (jc5 nid n (fillA z (parts.map fun p=>(p.1,p.2.1,ev p.2.2))) h) ⟨K⟩:=by
 simp only[opR,aOp,jc5,opt2];cases fillA z (parts.map fun p=>(p.1,p.2.1,ev p.2.2))with
 |none=>rfl
 |some cs=>by_cases hr:h.room nid=true<;>simp[hr]
theorem opR_store{n x v}: @opR nid (.store n x v) ev h ⟨K⟩=@opt2 (storeOA (jem h n (ev x) (ev v))) ⟨K⟩:=by
 simp only[opR,aOp,opt2];cases jem h n (ev x) (ev v)<;>rfl
theorem opR_makeSlice{z bytes l c}: @opR nid (.makeSlice z bytes l c) ev h ⟨K⟩=@opt2 (makeA nid z bytes h (ev l) (ev c)) ⟨K⟩:=by
 simp only[opR,aOp,opt2];cases ev l<;>cases ev c<;>simp only[makeA];rename_i k l k' c;by_cases hk:0<=l/\l<=c/\c*bytes<=2^47/\c<=2^47/\h.room nid=true
 ·simp only[if_pos hk]
 ·simp only[if_neg hk]
theorem opR_append{sz bytes s x}: @opR nid (.append sz bytes s x) ev h ⟨K⟩=@opt2 (appA nid sz bytes h (ev s) (jaH h sz (ev x))) ⟨K⟩:=by
 simp only[opR,aOp,opt2];cases jaH h sz (ev x)with
 |none=>rfl
 |some p=>obtain⟨m,news⟩:=p;simp only[appA];cases jav h nid sz bytes (ev s) m news<;>rfl
theorem opR_copy{sz d s}: @opR nid (.copy sz d s) ev h ⟨K⟩=@opt2 (copyA h sz (ev d) (ev s)) ⟨K⟩:=by
 simp only[opR,aOp,opt2];cases copyA h sz (ev d) (ev s)<;>rfl
end
end Go.Ae
