/- Texts of the proof, part 7: a second reading of the lowered code, proved sound, and what the functions compute. -/
import Derived.Great.BuildSlice
import Derived.Test.YtkbkpjinekcnhaaGreatF6
set_option linter.unusedSimpArgs false
set_option linter.unusedVariables false
set_option maxRecDepth 20000
set_option maxHeartbeats 4000000
namespace Go.Ae
variable {C : Ctx} {h' : Heap} {v : AV} {w : World} {b : Int} {nid : Option Nat} {t : TypeId} {P : Program}
section
variable {C : Ctx} {keep : Keep} {env : Env} {h : Heap} {w : World}
theorem VRun.op{run:Result Value}(V:VRun C keep env h w nid run v h'){r:Result Next}(hr:∀x w',run=.ok x w'->r=.ok (.value x) w'):OpRun C keep env h w nid r v h':=by
 obtain⟨env',w',a,b,c,d,e,f,g⟩:=V;exact⟨env',w',_,hr _ _ a,.inl rfl,b,c,d,e,f,g⟩
theorem jd1(n:Nat)(z:List AV):(jbo n z).length=n*z.length:=by
 unfold jbo;split<;>simp
theorem jhL{α:Type}(z:List α)(hz:0<z.length):∀(n k:Nat),k<n*z.length->(List.replicate n z).flatten[k]? =z[k% z.length]?
 |0,k,hk=>by omega
 |n+1,k,hk=>by
  rw[List.replicate_succ,List.flatten_cons,List.getElem?_append];by_cases h:k<z.length
  ·rw[if_pos h,Nat.mod_eq_of_lt h]
  ·rw[if_neg h,jhL z hz n (k-z.length) (by rw[Nat.add_mul]at hk;omega),<-Nat.mod_eq_sub_mod (by omega)]
theorem joB(n:Nat)(z:List AV)(hz:0<z.length)(k:Nat)(hk:k<n*z.length):(jbo n z)[k]? =z[k% z.length]? :=by
 unfold jbo;split
 ·rename_i x;simp only[List.length_singleton,Nat.mul_one]at hk;simp[hk,Nat.mod_one]
 ·exact jhL z hz n k hk
theorem jgj{n:Nat}{z:List AV}(hv:v∈jbo n z):v∈z:=by
 unfold jbo at hv;split at hv
 ·have:=List.eq_of_mem_replicate hv;simp[this]
 ·rw[List.mem_flatten]at hv;obtain⟨l,hl,hv⟩:=hv;rw[List.eq_of_mem_replicate hl]at hv;exact hv
theorem jmt(lk:Nat->FuncId)(env:Env){z:List AV}{v:Value}(hzv:z.map (AV.val lk env)=v.cells.toList)(hz:0<z.length)(n:Nat):
  ((jbo n z).map (AV.val lk env)).toArray=(Array.range (n*z.length)).map (v.cells[· % v.cells.size]!):=by
 have hsz:v.cells.size=z.length:=by rw[<-Array.length_toList,<-hzv];simp
 apply Array.ext';apply List.ext_getElem?;intro k;simp only[List.getElem?_map,Array.toList_map,Array.toList_range];by_cases hk:k<n*z.length
 ·rw[joB n z hz k hk,List.getElem?_range hk];have hm:k% z.length<z.length:=Nat.mod_lt _ hz;have:v.cells[k% v.cells.size]! =(z[k% z.length]).val lk env:=by
   rw[hsz,getElem!_pos v.cells (k% z.length) (by omega)];have:=congrArg (fun l:List Value=>l[k% z.length]?) hzv;simp only[List.getElem?_map,Array.getElem?_toList,List.getElem?_eq_getElem hm,Array.getElem?_eq_getElem (show k% z.length<v.cells.size by omega),Option.map_some,Option.some.injEq]at this;exact this.symm
  simp[List.getElem?_eq_getElem hm,this]
 ·have h1:(jbo n z)[k]? =none:=List.getElem?_eq_none (by rw[jd1];omega);have h2:(List.range (n*z.length))[k]? =none:=List.getElem?_eq_none (by simp;omega);rw[h1,h2];rfl
theorem joC(R:Rel C keep env h w){t e:TypeId}(ht:C.P.underlying t=some (.slice e)){z:List AV}(hz:zcells C.P e=some z){by_:Nat}(hb:jk7 C.P e=some by_)(hpos:0<z.length){kl kc:IntKind}{l c:Int}
  (h0:0<=l) (hlc:l<=c) (hby:c*by_<=2^47) (hc:c<=2^47) {nid:Option Nat} (hr:h.room nid=true):
  VRun C keep env h w nid ((Instr.makeSlice t (.int kl l) (.int kc c)).run C.P w) (.slice (h.nid nid) 0 l.toNat (.known c.toNat)) (h.new nid (.cells (jbo c.toNat z) true 0)):=by
 obtain⟨i,v,hi,hv,hs,hzv,hzl,hzb,_⟩:=jcm hz C.lk env h.ok;have hbi:i.bytes=by_:=by simpa[jk7,hi]using hb
 have hm:=run_make (P:=C.P) w t e i v ht hi hv kl kc l c h0 hlc (by rw[hbi,Int.mul_comm];omega) (by omega);have hcells:madeCells v.cells (c.toNat*i.size)=((jbo c.toNat z).map (AV.val C.lk env)).toArray:=by
  rw[jmt C.lk env hzv hpos,hzl];rfl
 rw[hcells]at hm;have A:=jfK R hr (jbo c.toNat z) 0 0 ((jbo c.toNat z).map (AV.val C.lk env)).toArray e (jjU C.lk env _) (fun x=>by omega) (fun v hv=>hzb v (jgj hv));refine⟨_,_,hm.trans ?_,A.1,A.2.1,A.2.2,jdX hr _,jd0 hr _,(jc0 hr).2 (.inl rfl)⟩;simp[AV.val,updE,Cap.at]
theorem jdA(n:Nat)(z:List AV):(List.replicate n z).flatten=jbo n z:=by
 unfold jbo;split
 ·simp
 ·rfl
theorem jhi(R:Rel C keep env h w){ρ:Operand->Value}{ev:AOpd->AV}(hρ:∀x ax,lowerOpd C.inv x=some ax->ρ x=(ev ax).val C.lk env/\(ev ax).bel h.ok)
  {t:TypeId} {n:Nat} {parts:Array (Nat×Operand)} {aop:AOp} (hl:jaL C.P C.inv t n parts=some aop):
  ∃z ps,aop=.buildSlice n z ps/\∀out nid,h.room nid=true->fillA z (ps.map fun p=>(p.1,p.2.1,ev p.2.2))=some out->
   VRun C keep env h w nid ((Instr.buildSlice t n (parts.map fun(i,x)=>(i,ρ x))).run C.P w) (.slice (h.nid nid) 0 n (.known n)) (h.new nid (.cells out true 0)):=by
 have hparts:(parts.map fun(x:Nat×Operand)=>(x.1,ρ x.2)).toList=parts.toList.map fun p=>(p.1,ρ p.2):=by simp
 unfold jaL at hl;split at hl
 ·rename_i e ht;split at hl
  ·rename_i z sz hz hn;split at hl
   ·rename_i hc;simp only[Option.map_eq_some_iff]at hl;obtain⟨zas,has,rfl⟩:=hl;refine⟨_,zas,rfl,fun out nid hr hout=>?_⟩;obtain⟨i,v,hi,hv,hs,hzv,hzl,hzb,_⟩:=jcm hz C.lk env h.ok;obtain⟨i',hi',hsi⟩:=jgh hn;rw[hi]at hi';cases hi';have hp:=jcb hρ _ _ _ has;have hfill:=jfG C.lk env _ _ _ _ out hp.1 hout;rw[jdA,jmt C.lk env hzv (by omega)]at hfill;have hbel:=jfH (p:=fun v=>v.bel h.ok) _ _ _ hout (fun v hv=>by rw[jdA]at hv;exact hzb v (jgj hv)) hp.2;have A:=jfK R hr out 0 0 (out.map (AV.val C.lk env)).toArray e (jjU C.lk env _) (fun x=>by omega) hbel
    rw[hzl]at hfill;by_cases hn0:n=0
    ·subst hn0;have hlen:out.length=0:=by rw[jgV _ _ _ hout];simp
     have hout0:out=[]:=List.eq_nil_of_length_eq_zero hlen;have hrun:(Instr.buildSlice t 0 (parts.map fun(x:Nat×Operand)=>(x.1,ρ x.2))).run C.P w=.ok (.slice (some ⟨w.heap.size,0,none⟩) 0 0) (w.alloc (.cells (out.map (AV.val C.lk env)).toArray e)):=by
      simp only[Nat.zero_mul,<-hsi]at hfill;simp only[Instr.buildSlice,Sem.run_bind,run_underlying ht,Result.andThen_ok,sizeOf,typeInfo,run_program,hi,Sem.run_pure,Nat.zero_mul];simp only[Array.range_zero',List.map_toArray,List.map_nil]at hfill;have e0:Array.map (fun _:Nat=>(default:Value)) (Array.range 0)= #[]:=by rw[Array.range_zero'];simp
      simp[e0,hfill,newRow]
     refine⟨_,_,hrun.trans ?_,A.1,A.2.1,A.2.2,jdX hr _,jd0 hr _,(jc0 hr).2 (.inl rfl)⟩;simp[AV.val,updE,Cap.at]
    ·have hrun:=run_buildSlice (P:=C.P) w t e n (parts.map fun(x:Nat×Operand)=>(x.1,ρ x.2)) (out.map (AV.val C.lk env)).toArray i v ht hi hv (by rw[hsi];omega)
      (by rw[hsi];intro x;rcases Nat.mul_eq_zero.1 x with x|x<;>omega) (by rw[hparts,hsi];rw[hsi]at hfill;exact hfill)
     refine⟨_,_,hrun.trans ?_,A.1,A.2.1,A.2.2,jdX hr _,jd0 hr _,(jc0 hr).2 (.inl rfl)⟩;simp[AV.val,updE,Cap.at]
   ·cases hl
  ·cases hl
 ·cases hl
theorem jmu(R:Rel C keep env h w){argTypes:Array TypeId}{t ty e:TypeId}{sz:Nat}(h0:argTypes[0]? =some t)(ht:C.P.underlying t=some (.slice e))(hn:sizeT C.P e=some sz){d s:AV}(hd:d.bel h.ok){nid:Option Nat}{v:AV}{h':Heap}
  (hc:copyA h sz d s=some (v,h')):VRun C keep env h w nid ((Builtin.copy_ argTypes ty #[d.val C.lk env,s.val C.lk env]).run C.P w) v h':=by
 unfold copyA at hc;split at hc
 ·rename_i mc hs;obtain⟨m,cs⟩:=mc;cases hc;obtain⟨h1,h2,h3,h4⟩:=jcS R hs;have hf:=jcn R hs 0 (Nat.zero_le _);refine kaU R nid ?_ trivial;simp only[AV.val];simp[Builtin.copy_,h0,run_underlying ht,h1,ja2 hn,hf,goInt]
 ·rename_i i o n c m cs hs;split at hc
  ·rename_i vs u hi;dsimp only at hc;split at hc
   ·rename_i hcond;cases hc;obtain⟨h1,h2,h3,h4⟩:=jcS R hs;have hle:min m n<=m:=Nat.min_le_left _ _;have hf:=jcn R hs (min m n) hle;have hlen:(cs.take (min m n*sz)).length=min m n*sz:=by
     have:=Nat.mul_le_mul_right sz hle;simp;omega
    obtain⟨w',hst,r1,r2⟩:=jjV R hi (o:=o) (cs:=cs.take (min m n*sz)) (by rw[hlen];exact hcond.1) hcond.2 (fun v hv=>h2 v (List.mem_of_mem_take hv));refine kbl R nid hi r1 r2 ?_ trivial;simp only[AV.val];have hmin:Nat.min m n=min m n:=rfl;simp only[Builtin.copy_,h0,List.getElem?_toArray,List.getElem?_cons_zero,List.getElem?_cons_succ,Sem.run_bind,run_underlying ht,Result.andThen_ok,h1,hmin,ja2 hn,hf,hst,Sem.run_pure,goInt]
   ·cases hc
  ·cases hc
 ·cases hc
theorem jdB{b:Builtin}{args:List AOpd}{argTypes:Array TypeId}{d:TypeDesc}(hd:(argTypes[0]?).bind C.P.underlying=some d):∃t,argTypes[0]? =some t/\C.P.underlying t=some d:=by
 cases ht:argTypes[0]? with
 |none=>simp[ht]at hd
 |some t=>exact⟨t,rfl,by simpa[ht]using hd⟩
theorem jjX(R:Rel C keep env h w){b:Builtin}{args:List AOpd}{argTypes:Array TypeId}{aop:AOp}{ev:AOpd->AV}{ty:TypeId}{consts:Array Bool}
  (hl:ja7 C.P b args argTypes=some aop) (hb:∀a∈args.map ev,a.bel h.ok) (hc:∀v,ev (.const v)=v) {nid:Option Nat} {v:AV} {h':Heap} (hv:aOp nid aop ev h=some (v,h')):
  OpRun C keep env h w nid ((builtin b argTypes ty consts ((args.map ev).map (AV.val C.lk env)).toArray).run C.P w) v h':=by
 have pureCase:(aOp nid aop ev h=(pureA aop ev h).map fun v=>(v,h))->OpRun C keep env h w nid ((builtin b argTypes ty consts ((args.map ev).map (AV.val C.lk env)).toArray).run C.P w) v h':=by
  intro hp;rw[hp]at hv;simp only[Option.map_eq_some_iff,Prod.mk.injEq]at hv;obtain⟨v',hv',rfl,rfl⟩:=hv;have:=jnG (env:=env) (w:=w) (ty:=ty) (consts:=consts) hl hb hc hv';exact⟨env,w,_,this.1,.inl rfl,R,kaz _ _,kam _ _,kay _,fun _ _ _=>rfl,this.2⟩
 unfold ja7 at hl;split at hl
 ·split at hl
  ·cases hl;exact pureCase rfl
  ·cases hl;exact pureCase rfl
  ·cases hl
 ·split at hl
  ·cases hl;exact pureCase rfl
  ·cases hl
 ·-- append
  rename_i s x;split at hl
  ·rename_i e hd;obtain⟨t,ht,hu⟩:=jdB (C:=C) (b:=.append) (args:=[]) hd;split at hl
   ·rename_i z by_ n xt hz hby hn hxt;obtain⟨i,zv,hi,hzv,hzs,hzm,hzl,hzb,hz1⟩:=jcm hz C.lk env h.ok;have hbi:i.bytes=by_:=by simpa[jk7,hi]using hby
    have hni:i.size=n:=by simpa[sizeT,hi]using hn
    subst hbi;subst hni;have hbs:(ev s).bel h.ok:=hb _ (by simp);split at hl
    ·-- zeros
     rename_i k hd2;split at hl
     ·rename_i hpos;cases hl;simp only[aOp]at hv;split at hv
      ·rename_i k' m hx;split at hv
       ·rename_i hm;obtain⟨q,rfl⟩:=Int.eq_ofNat_of_zero_le hm.1;rw[Int.toNat_natCast,hzl]at hv;have hq:q<=2^36:=by have:=hm.2;omega
        have A:AppOk C env h w e i true (.int k' q) q (jbo q z) argTypes ty:=
         ⟨fun base n c=>jhh ht hu hi hxt hd2 (by omega) (by
           have:q*i.bytes<=2^36*4096:=Nat.mul_le_mul hq hpos.2.2;omega) base n c,
           fun w' _=>by
          by_cases hq0:q*i.size=0
          ·have:q=0:=by rcases Nat.mul_eq_zero.1 hq0 with x|x<;>omega
           subst this;have e0:(jbo 0 z)=[]:=List.eq_nil_of_length_eq_zero (by rw[jd1];simp);simp[e0]
          ·simp only[Bool.not_true,Bool.false_eq_true,if_false,hq0];rw[jmt C.lk env hzm (by omega),hzl];simp[zeroValue,typeInfo,hi,hzv,Builtin.zeroCells,hzs],
           by rw[jd1,hzl],fun v hv=>hzb v (jgj hv)⟩
        have V:=jfN R hi hzv hzs hpos.1 hpos.2.1 A hbs hv;refine V.op fun x' w' hr=>?_;simp only[List.map_cons,List.map_nil,hx,AV.val];simp only[builtin,Sem.run_bind,hr,Result.andThen_ok,Sem.run_pure]
       ·cases hv
      ·cases hv
     ·cases hl
    ·-- a slice
     rename_i d hnot hd2;split at hl
     ·rename_i hpos;cases hl;simp only[aOp]at hv;split at hv
      ·rename_i m news hcon;obtain⟨h1,h2,h3,h4⟩:=jcS R hcon;have A:AppOk C env h w e i false ((ev x).val C.lk env) m news argTypes ty:=
        ⟨fun base n c=>jjW ht hu hi hxt hd2 (fun k hk=>by subst hk;exact hnot k rfl) h1 base n c,
          fun w' hw'=>by
         have:=jcn (R.heap_eq hw') hcon m (Nat.le_refl _);rw[List.take_of_length_le (by omega)]at this;simpa using this,
          h3,h2⟩
       have V:=jfN R hi hzv hzs hpos.1 hpos.2.1 A hbs hv;refine V.op fun x' w' hr=>?_;simp only[List.map_cons,List.map_nil];simp only[builtin,Sem.run_bind,hr,Result.andThen_ok,Sem.run_pure]
      ·cases hv
     ·cases hl
    ·cases hl
   ·cases hl
  ·cases hl
 ·-- copy
  rename_i d s;split at hl
  ·rename_i e hd;obtain⟨t,ht,hu⟩:=jdB (C:=C) (b:=.append) (args:=[]) hd;simp only[Option.map_eq_some_iff]at hl;obtain⟨n,hn,rfl⟩:=hl;simp only[aOp]at hv;have V:=jmu R (ty:=ty) ht hu hn (hb _ (by simp)) (nid:=nid) hv;refine V.op fun x' w' hr=>?_;simp only[List.map_cons,List.map_nil];simp only[builtin,Sem.run_bind,hr,Result.andThen_ok,Sem.run_pure]
  ·cases hl
 ·cases hl;exact pureCase rfl
 ·cases hl;exact pureCase rfl
 ·cases hl
theorem jhM(R:Rel C keep env h w){ρ:Operand->Value}{ev:AOpd->AV}(hρ:∀x ax,lowerOpd C.inv x=some ax->ρ x=(ev ax).val C.lk env/\(ev ax).bel h.ok)
  (hc:∀v,ev (.const v)=v) {o:Oper} {aop:AOp} (hl:lowerOp C.P C.inv o.op=some aop) {nid:Option Nat} {v:AV} {h':Heap} (hv:aOp nid aop ev h=some (v,h')):
  OpRun C keep env h w nid ((execOp ρ o).run C.P w) v h':=by
 have pureCase:(aOp nid aop ev h=(pureA aop ev h).map fun v=>(v,h))->OpRun C keep env h w nid ((execOp ρ o).run C.P w) v h':=by
  intro hp;rw[hp]at hv;simp only[Option.map_eq_some_iff,Prod.mk.injEq]at hv;obtain⟨v',hv',rfl,rfl⟩:=hv;have:=jox R hρ hc hl hv';exact⟨env,w,_,this.1,.inl rfl,R,kaz _ _,kam _ _,kay _,fun _ _ _=>rfl,this.2⟩
 cases hop:o.op with
 | alloc e =>
  rw[hop]at hl;simp only[lowerOp,Option.map_eq_some_iff]at hl;obtain⟨z,hz,rfl⟩:=hl;simp only[aOp]at hv;split at hv
  ·rename_i hr;cases hv;obtain⟨i,zv,hi,hzv,hzs,hzm,hzl,hzb,hz1⟩:=jcm hz C.lk env h.ok;have hcells:zv.cells=(z.map (AV.val C.lk env)).toArray:=by rw[hzm]
   have:=jhK R hr z hzb e;rw[<-hcells]at this;have hrun:(execOp ρ o).run C.P w=.ok (.value (.pointer (some ⟨w.heap.size,0,none⟩))) (w.alloc (.cells zv.cells e)):=by
    simp[execOp,hop,Instr.alloc,zeroValue,typeInfo,hi,hzv,newVar,newRow]
   rw[hrun];exact this
  ·cases hv
 | box e x =>
  rw[hop]at hl;simp only[lowerOp,Option.map_eq_some_iff]at hl;obtain⟨a,ha,rfl⟩:=hl;simp only[aOp]at hv;split at hv
  ·rename_i hr;cases hv;have hx:=hρ x a ha;have hcells:=jfE C.lk env (ev a);have:=jhK R hr (ev a).cells (jhF hx.2) e;rw[<-hcells]at this;have hrun:(execOp ρ o).run C.P w=.ok (.value (.pointer (some ⟨w.heap.size,0,none⟩))) (w.alloc (.cells ((ev a).val C.lk env).cells e)):=by
    simp[execOp,hop,Instr.box,newVar,newRow,hx.1]
   rw[hrun];exact this
  ·cases hv
 | buildSlice t n ps =>
  rw[hop]at hl;obtain⟨z,zas,rfl,hb⟩:=jhi R hρ (show jaL C.P C.inv t n ps=some aop from hl);simp only[aOp]at hv;split at hv
  ·rename_i cs hcs;split at hv
   ·rename_i hr;cases hv;refine(hb cs nid hr hcs).op fun x w' hrun=>?_;simp only[execOp,hop,Sem.run_bind,hrun,Result.andThen_ok,Sem.run_pure]
   ·cases hv
  ·cases hv
 |store t a x=>
  rw[hop]at hl;simp only[lowerOp]at hl;split at hl
  ·rename_i a' x' n h1 h2 h3;cases hl;simp only[aOp,Option.map_eq_some_iff,Prod.mk.injEq]at hv;obtain⟨h'',hs,rfl,rfl⟩:=hv;obtain⟨w',hrun,r1,r2,r3⟩:=jle R h3 (hρ x x' h2).2 hs nid;refine⟨env,w',.skip,?_,.inr ⟨rfl,rfl⟩,r1,r2,kam _ _,r3.grow,fun i hi _=>r3.same i hi,trivial⟩;simp only[execOp,hop,(hρ a a' h1).1,(hρ x x' h2).1,Sem.run_bind,hrun,Result.andThen_ok,Sem.run_pure]
  ·cases hl
 | makeMap t r =>
  rw[hop]at hl;have hl':lowerMap C.P C.inv (.makeMap t r)=some aop:=hl;cases r<;>simp only[lowerMap]at hl'
  ·split at hl'
   ·rename_i kt e ht;cases hl';simp only[aOp]at hv;split at hv
    ·rename_i hr;cases hv;obtain⟨a1,a2,a3,a4⟩:=jjS R ht hr;refine⟨_,_,.value (.map (some w.heap.size)),?_,.inl ?_,a2,a3,a4,jdX hr _,jd0 hr _,(jc0 hr).2 (.inl rfl)⟩
     ·simp only[execOp,hop,Option.map_none,Sem.run_bind,a1,Result.andThen_ok,Sem.run_pure]
     ·simp[AV.val,updE]
    ·cases hv
   ·cases hl'
  ·cases hl'
 |recv t x comma=>
  rw[hop]at hl;simp only[lowerOp]at hl;split at hl
  ·simp only[Option.map_eq_some_iff]at hl;obtain⟨_,_,rfl⟩:=hl;simp[aOp,pureA]at hv
  ·cases hl
 | makeChan t s =>
  rw[hop]at hl;simp only[lowerOp]at hl;split at hl
  ·rename_i d e k h1 h2;simp only[Option.map_eq_some_iff]at hl;obtain⟨i,hi,rfl⟩:=hl;simp only[aOp]at hv;split at hv
   ·rename_i hr;cases hv;have hs:=(hρ s _ h2).1;rw[hc]at hs;simp only[AV.val]at hs;obtain⟨a1,a2,a3,a4⟩:=jiU R h1 hi (k:=k) hr;refine⟨_,_,.value (.chan (some w.heap.size)),?_,.inl ?_,a2,a3,a4,jdX hr _,jd0 hr _,(jc0 hr).2 (.inl rfl)⟩
    ·simp only[execOp,hop,hs,Sem.run_bind,a1,Result.andThen_ok,Sem.run_pure]
    ·simp[AV.val,updE]
   ·cases hv
  ·cases hl
 |mapUpdate t m k x=>
  rw[hop]at hl;have hl':lowerMap C.P C.inv (.mapUpdate t m k x)=some aop:=hl;simp only[lowerMap]at hl';split at hl'
  ·rename_i kt e m' k' x' h1 h2 h3 h4;simp only[Option.map_eq_some_iff]at hl';obtain⟨ks,hks,rfl⟩:=hl';simp only[aOp,Option.map_eq_some_iff,Prod.mk.injEq]at hv;obtain⟨h'',hs,rfl,rfl⟩:=hv;obtain⟨w',hrun,r1,r2,r3⟩:=jgW R h1 hks (hρ k k' h3).2 (hρ x x' h4).2 hs;refine⟨env,w',.skip,?_,.inr ⟨rfl,rfl⟩,r1,r2,kam _ _,r3.grow,fun i hi _=>r3.same i hi,trivial⟩;simp only[execOp,hop,(hρ m m' h2).1,(hρ k k' h3).1,(hρ x x' h4).1,Sem.run_bind,hrun,Result.andThen_ok,Sem.run_pure]
  ·cases hl'
 |insert t m k x=>
  rw[hop]at hl;have hl':lowerMap C.P C.inv (.insert t m k x)=some aop:=hl;simp only[lowerMap]at hl';split at hl'
  ·rename_i kt e m' k' x' h1 h2 h3 h4;simp only[Option.map_eq_some_iff]at hl';obtain⟨ks,hks,rfl⟩:=hl';simp only[aOp,Option.map_eq_some_iff,Prod.mk.injEq]at hv;obtain⟨h'',hs,rfl,rfl⟩:=hv;obtain⟨w',hrun,r1,r2,r3⟩:=jgW R h1 hks (hρ k k' h3).2 (hρ x x' h4).2 hs;refine⟨env,w',.skip,?_,.inr ⟨rfl,rfl⟩,r1,r2,kam _ _,r3.grow,fun i hi _=>r3.same i hi,trivial⟩;simp only[execOp,hop,(hρ m m' h2).1,(hρ k k' h3).1,(hρ x x' h4).1,Sem.run_bind,hrun,Result.andThen_ok,Sem.run_pure]
  ·cases hl'
 | lookup t m k comma =>
  apply pureCase;rw[hop]at hl;have hl':lowerMap C.P C.inv (.lookup t m k comma)=some aop:=hl;simp only[lowerMap]at hl'
  repeat' split at hl'
  all_goals first
   |(cases hl';done)
   |(cases hl';rfl)
 | makeSlice t l c =>
  rw[hop]at hl;simp only[lowerOp]at hl;split at hl
  ·rename_i e l' c' h1 h2 h3;split at hl
   ·rename_i z by_ h4 h5;split at hl
    ·rename_i hpos;cases hl;simp only[aOp]at hv;split at hv
     ·rename_i kl ll kc cc el ec;split at hv
      ·rename_i hcond;cases hv;obtain⟨c1,c2,c3,c4,c5⟩:=hcond;have e1:=(hρ l l' h2).1;have e2:=(hρ c c' h3).1;rw[el]at e1;rw[ec]at e2;refine(joC R h1 h4 h5 hpos (kl:=kl) (kc:=kc) c1 c2 c3 c4 c5).op fun x w' hrun=>?_;simp only[AV.val]at e1 e2;simp only[execOp,hop,e1,e2,Sem.run_bind,hrun,Result.andThen_ok,Sem.run_pure]
      ·cases hv
     ·cases hv
    ·cases hl
   ·cases hl
  ·cases hl
 | call c =>
  rw[hop]at hl;have hl':jbc C.P C.inv c=some aop:=hl;unfold jbc at hl';split at hl'
  ·rename_i args hargs;have q:=jba hρ hargs;have e1:c.args.map ρ=((args.map ev).map (AV.val C.lk env)).toArray:=by rw[<-q.1,<-jc3]
   split at hl'
   ·simp only[Option.map_eq_some_iff]at hl';obtain⟨f,_,rfl⟩:=hl';simp[aOp,pureA]at hv
   ·rename_i b hcal;have r:=jjX R (ty:=o.type) (consts:=c.args.map fun|.const _=>true|_=>false) hl' q.2 hc hv;obtain⟨env',w',V,a1,a2⟩:=r;refine⟨env',w',V,?_,a2⟩;simp only[execOp,hop,resolve,hcal,Sem.run_bind,Sem.run_pure,Result.andThen_ok,invoke,e1];exact a1
   ·cases hl'
  ·cases hl'
 |build t ps=>
  apply pureCase;rw[hop]at hl;obtain⟨z,zas,rfl,_⟩:=jhJ (w:=w) hρ (show jbF C.P C.inv t ps=some aop from hl);rfl
 | binOp op xt x y yt =>
  apply pureCase;rw[hop]at hl;simp only[lowerOp]at hl
  repeat' split at hl
  all_goals first
   |(cases hl;done)
   |(cases hl;rfl)
   |(simp only[Option.map_eq_some_iff]at hl;obtain⟨_,_,rfl⟩:=hl;rfl)
 | makeFunc fn a b =>
  apply pureCase;rw[hop]at hl;cases fn<;>simp only[lowerOp]at hl;all_goals repeat' split at hl
  all_goals first
   |(cases hl;done)
   |(cases hl;rfl)
 | _ =>
  apply pureCase;rw[hop]at hl;simp only[lowerOp]at hl;all_goals repeat' split at hl
  all_goals first
   |(cases hl;done)
   |(cases hl;rfl)
   |(simp only[Option.map_eq_some_iff]at hl;obtain⟨_,_,rfl⟩:=hl;rfl)
end
open Go.Conc
section
variable {P : Program} {w : World} {α β : Type} {env : Env}
theorem jjY{size sLen n:Nat}{base:Option Addr}{x:Value}{f:Bool->Sem α}(hf:∀b,Doomed P (f b))(ht:∀b w,jag P (f b) w):jag P (Builtin.mayShare size sLen n base x>>=f) w:=by
 have hd:Doomed P (Builtin.mayShare size sLen n base x>>=f):=jkZ hf
 revert hd
 unfold Builtin.mayShare;cases base with
 |some a=>exact fun hd=>fun w v w'=>hd w v w'
 | none =>
  intro hd;cases x with
  |slice p a b=>
   cases p with
   |some q=>exact fun w v w'=>hd w v w'
   |none=>exact ht _ _
  |_=>exact ht _ _
theorem joD{d:Nat}{q k k':IntKind}{a:Int}(h:P.underlying t=some (.int q)):jag P (Op.equalIn (d+1) t (.int k a) (.int k' b)) w:=by
 unfold Op.equalIn;refine jak (jaf t) (run_underlying h w) ?_;dsimp only;split<;>first|exact jac _|exact jat _
theorem jhN{d:Nat}{a b:Bool}(h:P.underlying t=some .bool):jag P (Op.equalIn (d+1) t (.bool a) (.bool b)) w:=by
 unfold Op.equalIn;exact jak (jaf t) (run_underlying h w) (jac _)
theorem jgk{γ:Type}{body:α->γ->Sem (ForInStep γ)}:∀(l:List α) (s:γ) (w:World),(∀a∈l,∀s w,jag P (body a s) w)->jag P (forIn l s body) w
 |[],s,w,_=>by rw[List.forIn_nil];exact jac _
 |a::l,s,w,h=>by
  rw[List.forIn_cons];refine jab (h a (by simp) s w) fun r w' _=>?_;cases r with
  |done b=>exact jac _
  |yield b=>exact jgk l b w' fun x hx=>h x (by simp[hx])
def GoodF(P:Program)(xs ys:List AV)(f:Field):Prop:=
 (∃q k k' a b,P.underlying f.type=some (.int q)/\xs[f.offset]? =some (.int k a)/\ys[f.offset]? =some (.int k' b))\/
 (∃a b,P.underlying f.type=some .bool/\xs[f.offset]? =some (.bool a)/\ys[f.offset]? =some (.bool b))
theorem jd2{xs ys:List AV}:∀(fs:List Field) (ls:List (Nat×Bool)) (r:Bool),leavesOf P fs=some ls->jaB xs ys ls=some r->∀f∈fs,GoodF P xs ys f
 |[],_,_,_,_,f,hf=>by cases hf
 | f :: fs, ls, r, hl, he, g, hg => by
  unfold leavesOf at hl;split at hl
  ·cases hl
  ·split at hl
   ·rename_i k ls' hu hls;cases hl;simp only[jaB]at he;split at he
    ·rename_i k1 a k2 b r' ha hb hr;rcases List.mem_cons.1 hg with rfl|hg
     ·exact .inl ⟨_,_,_,_,_,hu,ha,hb⟩
     ·exact jd2 fs ls' r' hls hr g hg
    ·cases he
   ·rename_i ls' hu hls;cases hl;simp only[jaB]at he;split at he
    ·rename_i a b r' ha hb hr;rcases List.mem_cons.1 hg with rfl|hg
     ·exact .inr ⟨_,_,hu,ha,hb⟩
     ·exact jd2 fs ls' r' hls hr g hg
    ·cases he
   ·cases hl
theorem jd3(lk:Nat->FuncId){t:TypeId}{d:TypeDesc}(h1:P.underlying t=some d)(h2:(match d with|.struct _|.array _ _=>true|_=>false)=false){zs:List AV}{o:Nat}{a:AV}(ha:zs[o]? =some a)(w:World):
  (part t (zs.map (AV.val lk env)).toArray o).run P w=.ok (a.val lk env) w:=by
 have hg:aggT P t=some false:=by unfold aggT;rw[h1];cases d<;>simp_all
 simp[part,jbG hg,ha]
theorem jhO(lk:Nat->FuncId){d:Nat}{xs ys:List AV}{f:Field}(h:GoodF P xs ys f){K:Bool->Sem β}(hK:∀b w,jag P (K b) w)(w:World):
  jag P (do let a<-part f.type (xs.map (AV.val lk env)).toArray f.offset;let b<-part f.type (ys.map (AV.val lk env)).toArray f.offset;let r<-Op.equalIn (d+1) f.type a b;K r) w:=by
 rcases h with⟨q,k,k',a,b,hu,ha,hb⟩|⟨a,b,hu,ha,hb⟩
 ·refine jak (ja1 ..) (jd3 lk hu rfl ha w) (jak (ja1 ..) (jd3 lk hu rfl hb w) ?_);exact jab (joD hu) fun r w' _=>hK r w'
 ·refine jak (ja1 ..) (jd3 lk hu rfl ha w) (jak (ja1 ..) (jd3 lk hu rfl hb w) ?_);exact jab (jhN hu) fun r w' _=>hK r w'
theorem jfO{d:Nat}{t:TypeId}{fs:Array Field}{xs ys:Array Value}(hu:P.underlying t=some (.struct fs))(hst:P.stoodInHeld t=false)
  (hf:∀f∈fs.toList,∀(K:Bool->Sem (ForInStep (Option Bool×PUnit))),(∀b w,jag P (K b) w)->∀w,jag P (do let a<-part f.type xs f.offset;let b<-part f.type ys f.offset;let r<-Op.equalIn d f.type a b;K r) w):
  jag P (Op.equalIn (d+1) t (.agg xs) (.agg ys)) w:=by
 unfold Op.equalIn;refine jak (jaf t) (run_underlying hu w) ?_;dsimp only;refine jak (w':=w) (a:=P) jau rfl ?_;rw[hst];simp only[Bool.false_eq_true,if_false];refine jab ?_ fun r w' _=>?_
 ·rw[<-Array.forIn_toList];refine jgk _ _ _ fun f hf' s w=>?_;split
  ·exact hf f hf' _ (fun b w=>by split<;>exact jac _) w
  ·exact jac _
 ·split<;>exact jac _
theorem jfP(lk:Nat->FuncId){d:Nat}{t:TypeId}{fs:Array Field}{xs ys:List AV}{ls:List (Nat×Bool)}{r:Bool}(hu:P.underlying t=some (.struct fs))(hst:P.stoodInHeld t=false)(hl:leavesOf P fs.toList=some ls)(he:jaB xs ys ls=some r):
  jag P (Op.equalIn (d+2) t (.agg (xs.map (AV.val lk env)).toArray) (.agg (ys.map (AV.val lk env)).toArray)) w:=
 jfO hu hst fun f hf K hK w=>jhO lk (jd2 _ _ _ hl he f hf) hK w
theorem jdi(lk:Nat->FuncId){d:Nat}{xs ys:List AV}:∀(fs:List Field) (ls:List (Nat×Bool)) (r:Bool),leavesOf2 P fs=some ls->jaB xs ys ls=some r->
  ∀f∈fs,∀(K:Bool->Sem β),(∀b w,jag P (K b) w)->∀w,jag P (do let a<-part f.type (xs.map (AV.val lk env)).toArray f.offset;let b<-part f.type (ys.map (AV.val lk env)).toArray f.offset;let r<-Op.equalIn (d+2) f.type a b;K r) w
 |[],_,_,_,_,f,hf=>by cases hf
 | f :: fs, ls, r, hl, he, g, hg => by
  intro K hK w;unfold leavesOf2 at hl;split at hl
  ·cases hl
  ·split at hl
   ·rename_i k ls' hu hls;cases hl;simp only[jaB]at he;split at he
    ·rename_i k1 a k2 b r' ha hb hr;rcases List.mem_cons.1 hg with rfl|hg
     ·exact jhO lk (.inl ⟨_,_,_,_,_,hu,ha,hb⟩) hK w
     ·exact jdi lk fs ls' r' hls hr g hg K hK w
    ·cases he
   ·rename_i ls' hu hls;cases hl;simp only[jaB]at he;split at he
    ·rename_i a b r' ha hb hr;rcases List.mem_cons.1 hg with rfl|hg
     ·exact jhO lk (.inr ⟨_,_,hu,ha,hb⟩) hK w
     ·exact jdi lk fs ls' r' hls hr g hg K hK w
    ·cases he
   ·rename_i gs ls' hu hls;split at hl
    ·rename_i hst;split at hl
     ·rename_i ms n hms hn;split at hl
      ·rename_i hall;cases hl;obtain⟨r1,r2,h1,h2,rfl⟩:=jdY _ _ _ he;rcases List.mem_cons.1 hg with rfl|hg
       ·have hm:∀p∈ms,p.1<n:=fun p hp=>by simpa using List.all_eq_true.1 hall p hp
        have h1':=jcQ ms r1 hm h1;have hag:aggT P g.type=some true:=by unfold aggT;rw[hu]
        have part2:∀(zs:List AV) (w:World),(part g.type (zs.map (AV.val lk env)).toArray g.offset).run P w=.ok (.agg (((zs.drop g.offset).take n).map (AV.val lk env)).toArray) w:=by
         intro zs w;simp[part,jbG hag,ja2 hn,List.map_drop,List.map_take]
        refine jak (ja1 ..) (part2 xs w) (jak (ja1 ..) (part2 ys w) ?_);exact jab (jfP lk hu hst hms h1') fun r w' _=>hK r w'
       ·exact jdi lk fs ls' r2 hls h2 g hg K hK w
      ·cases hl
     ·cases hl
    ·cases hl
   ·cases hl
theorem jiV(lk:Nat->FuncId){d:Nat}{t:TypeId}{fs:Array Field}{xs ys:List AV}{ls:List (Nat×Bool)}{r:Bool}(hu:P.underlying t=some (.struct fs))(hst:P.stoodInHeld t=false)(hl:leavesOf2 P fs.toList=some ls)(he:jaB xs ys ls=some r):
  jag P (Op.equalIn (d+3) t (.agg (xs.map (AV.val lk env)).toArray) (.agg (ys.map (AV.val lk env)).toArray)) w:=
 jfO hu hst (jdi lk _ _ _ hl he)
theorem jcx{em:Bool}{n:Nat}{d:TypeDesc}{v:Value}(h1:P.underlying t=some d)(h2:(match d with|.interface _|.struct _|.array _ _=>true|_=>false)=false):jag P (Instr.checkKey em (n+1) t v) w:=by
 unfold Instr.checkKey;refine jak (jaf t) (run_underlying h1 w) ?_;cases d<;>first|(simp at h2;done)|exact jac _
theorem jgl(lk:Nat->FuncId)(em:Bool){kt:TypeId}{ks:AKey}(hk:keyT P kt=some ks){k:AV}(he:(keyEq ks k k).isSome=true):jag P (Instr.checkKey em 10000 kt (k.val lk env)) w:=by
 obtain⟨r,hr⟩:=Option.isSome_iff_exists.1 he;unfold keyT at hk;split at hk
 ·rename_i q hu;exact jcx (n:=9999) hu rfl
 ·rename_i hu;exact jcx (n:=9999) hu rfl
 ·rename_i fs hu;split at hk
  ·rename_i hst;simp only[Option.map_eq_some_iff]at hk;obtain⟨ls,hls,rfl⟩:=hk;obtain⟨xs,ys,rfl,e,h1⟩:=jdh hr;cases e;show jag P (Instr.checkKey em (9999+1) kt _) w;unfold Instr.checkKey;refine jak (jaf kt) (run_underlying hu w) ?_;simp only[AV.val,jbn];refine jab ?_ fun _ _ _=>jac _;rw[<-Array.forIn_toList];refine jgk _ _ _ fun f hf' s w=>?_;split
   ·rcases jd2 _ _ _ hls h1 f hf' with⟨q,k,k',a,b,hu,ha,hb⟩|⟨a,b,hu,ha,hb⟩
    ·exact jab (ja1 ..) fun _ _ _=>jab (jcx (n:=9998) hu rfl) fun _ _ _=>jac _
    ·exact jab (ja1 ..) fun _ _ _=>jab (jcx (n:=9998) hu rfl) fun _ _ _=>jac _
   ·exact jac _
  ·cases hk
 ·cases hk
theorem jnK(lk:Nat->FuncId){kt:TypeId}{fs:Array Field}{ls:List (Nat×Bool)}(hu:P.underlying kt=some (.struct fs))(hst:P.stoodInHeld kt=false)(hls:leavesOf P fs.toList=some ls){k:AV}:
  ∀(es:List (AV×AV)) (ents:List MapEntry) (i:Nat) (r:Option (Nat×AV)) (w:World),Held lk env ents es->findA (.struct ls) k es i=some r->jag P (Instr.findAsking kt (k.val lk env) ents i) w
 |[],ents,i,r,w,hh,hf=>by cases hh.nil;exact jac _
 | e :: es, ents, i, r, w, hh, hf => by
  obtain⟨x,xs,rfl,h1,h2,h3⟩:=hh.cons;unfold findA at hf;cases hq:keyEq (.struct ls) k e.1 with
  |none=>rw[hq]at hf;cases hf
  | some b =>
   obtain⟨zas,bs,rfl,e2,hc⟩:=jdh hq;rw[e2]at h1;rw[hq]at hf;have hfo:P.fieldsOf kt=fs:=by simp[Program.fieldsOf,hu]
   have q:=run_equalIn_struct (P:=P) w 9999 kt (zas.map (AV.val lk env)).toArray (bs.map (AV.val lk env)).toArray (by rw[hfo];exact hu) hst;rw[hfo,jcC lk 9998 zas bs fs.toList ls b hls hc]at q;unfold Instr.findAsking;rw[h1];simp only[AV.val,jbn,Op.equal,Op.maxDepth];refine jak (jfP lk (d:=9998) hu hst hls hc) q ?_;cases b with
   |true=>exact jac _
   |false=>
    have ih:=jnK lk hu hst hls (k:=.agg zas) es xs (i+1) r w h3 hf;simp only[AV.val,jbn]at ih;exact ih
theorem jhP(lk:Nat->FuncId){kt:TypeId}{ks:AKey}(hk:keyT P kt=some ks){k:AV}{es:List (AV×AV)}{ents:List MapEntry}{r:Option (Nat×AV)}(hh:Held lk env ents es)(hf:findA ks k es 0=some r):
  jag P (Instr.findKey kt (k.val lk env) ents) w:=by
 unfold keyT at hk;split at hk
 ·rename_i q hu;cases hk;unfold Instr.findKey;refine jak (jaf kt) (run_underlying hu w) ?_;rw[jmq lk q es ents 0 r hh hf];exact jac _
 ·rename_i hu;cases hk;unfold Instr.findKey;refine jak (jaf kt) (run_underlying hu w) ?_;rw[jjR lk es ents 0 r hh hf];exact jac _
 ·rename_i fs hu;split at hk
  ·rename_i hst;simp only[Option.map_eq_some_iff]at hk;obtain⟨ls,hls,rfl⟩:=hk;unfold Instr.findKey;refine jak (jaf kt) (run_underlying hu w) ?_;split
   ·exact jac _
   ·exact jnK lk hu hst hls es ents 0 r w hh hf
  ·cases hk
 ·cases hk
end
end Go.Ae
namespace Go.Ae
variable {C : Ctx} {h' : Heap} {v : AV} {w : World} {b : Int} {nid : Option Nat} {t : TypeId} {P : Program}
open Go.Conc
section
variable {P : Program} {w : World} {α β : Type}
theorem jfQ(size n:Nat)(zeros:Bool)(x:Value)(e:TypeId):jag P (if !zeros then Builtin.firstCells size n x else if n*size=0 then pure #[]else do pure (Builtin.zeroCells (<-zeroValue e).cells n):Sem (Array Value)) w:=by
 repeat' (with_reducible first|exact jac _|exact jbs _|exact jaf .. |exact jao .. |exact jaq .. |exact jaz .. |exact ja4 .. |exact jaS .. |exact jaP .. |exact jaJ .. |exact jaj .. |exact jaK .. |exact ja5 .. |exact jaT .. |exact jbd .. |exact jaU .. |exact jaw .. |exact jaI .. |exact jbj .. |exact ja8 .. |exact jan .. |exact jat .. |exact jau .. |exact jaQ .. |exact jay .. |exact jaW .. |exact jaE .. |exact jas .. |exact jaX .. |exact jaR .. |exact ja1 .. |exact jbq .. |exact jaD .. |refine jbz ?_|refine jab ?_ (fun _ _ _=>?_)|split|dsimp only)
theorem jez(e:TypeId)(size:Nat)(zeros:Bool)(base:Option Addr)(sLen sCap:Nat)(s x:Value)(n:Nat):jag P (jcc e size zeros base sLen sCap s x n) w:=by
 unfold jcc;dsimp only;split
 ·refine jab (jfQ ..) fun _ _ _=>?_;split
  ·exact jab (jas ..) fun _ _ _=>jac _
  ·exact jac _
 ·have last:∀w,jag P (do
    let newCap<-choose (.appendCap (sLen+n) sCap e)
    askRoom (newCap*(<-typeInfo e).bytes)
    let old<-Builtin.firstCells size sLen s
    let new<-(if !zeros then Builtin.firstCells size n x else if n*size=0 then pure #[]else do pure (Builtin.zeroCells (<-zeroValue e).cells n):Sem (Array Value))
    let rest:=Builtin.zeroCells (<-zeroValue e).cells (newCap-(sLen+n))
    pure (.slice (some (<-newRow e (old++new++rest))) (sLen+n) newCap):Sem Value) w:=by
   intro w;refine jab (jaI _) fun _ _ _=>jab (jao _) fun _ _ _=>jab (jaW _) fun _ _ _=>jab (jaD ..) fun _ _ _=>jab (jfQ ..) fun _ _ _=>jab (jaq _) fun _ _ _=>jab (jaP ..) fun _ _ _=>jac _
  have mid:∀w,jag P (do
    if Builtin.nextslicecap (sLen+n) sCap*(<-typeInfo e).bytes>2^48 then(if zeros then runtimePanic (.error "growslice: len out of range")else do
     if !(<-Builtin.mayShare size sLen n base x)then mark .noRoom
     unsupported (.resourceLimit "append: a slice or a string whose bytes no memory bears"))
    let newCap<-choose (.appendCap (sLen+n) sCap e)
    askRoom (newCap*(<-typeInfo e).bytes)
    let old<-Builtin.firstCells size sLen s
    let new<-(if !zeros then Builtin.firstCells size n x else if n*size=0 then pure #[]else do pure (Builtin.zeroCells (<-zeroValue e).cells n):Sem (Array Value))
    let rest:=Builtin.zeroCells (<-zeroValue e).cells (newCap-(sLen+n))
    pure (.slice (some (<-newRow e (old++new++rest))) (sLen+n) newCap):Sem Value) w:=by
   intro w;refine jab (jao _) fun _ _ _=>?_;dsimp only;split
   ·refine jab ?_ fun _ _ _=>last _;split
    ·exact jaj _
    ·refine jjY (fun b w v w' hr=>?_) (fun b w=>?_)
     ·split at hr
      ·cases hr
      ·cases hr
     ·split
      ·exact⟨rfl,jan _⟩
      ·exact jan _
   ·exact last _
  clear last;refine jab (jao _) fun _ _ _=>?_;dsimp only at mid|-;split
  ·exact jab (jaj _) fun _ _ _=>mid _
  ·exact mid _
theorem jmv(ts:Array TypeId)(t:TypeId)(zas:Array Value):jag P (Builtin.append_ ts t zas) w:=by
 unfold Builtin.append_;split
 ·refine jab (jaf _) fun d w' _=>?_;split
  ·split
   ·rename_i e _ _ base n c _;refine jab (jaz _) fun size w' _=>?_;have rest:∀(zeros:Bool) (w:World) (x:Value),jag P (do
      let n'<-if zeros then do
        let l:=IntKind.i64.wrap (<-asInt x)
        if l<0 then runtimePanic (.error "makeslice: len out of range")
        if l*(<-typeInfo e).bytes>2^48 then
         let made<-choose (.extern "append.ofMake.carriedOut" 2)
         runtimePanic (.error (if made==1 then "makeslice: len out of range" else "growslice: len out of range"))
        pure l.toNat
       else Builtin.lenOf x
      jcc e size zeros base n c (.slice base n c) x n':Sem Value) w:=by
     intro zeros w x;dsimp only;split
     ·refine jab (ja5 _) fun _ _ _=>?_;have tail:∀(w:World) (l:Int),jag P (do
        if l*(<-typeInfo e).bytes>2^48 then
         let made<-choose (.extern "append.ofMake.carriedOut" 2)
         runtimePanic (.error (if made==1 then "makeslice: len out of range" else "growslice: len out of range"))
        let n'<-pure l.toNat
        jcc e size zeros base n c (.slice base n c) x n':Sem Value) w:=by
       intro w l;refine jab (jao _) fun _ _ _=>?_;dsimp only;split
       ·exact jab (jaI _) fun _ _ _=>jab (jaj _) fun _ _ _=>jez ..
       ·exact jez ..
      split
      ·exact jab (jaj _) fun _ _ _=>tail _ _
      ·exact tail _ _
     ·exact jab (jbq _) fun _ _ _=>jez ..
    cases ts[1]? with
    |none=>exact rest false _ _
    |some xt=>exact jab (jaf _) fun _ _ _=>rest _ _ _
   ·exact jat _
  ·exact jat _
 ·exact jat _
theorem jbp{s:Sem Value}(h:jag P s w):jag P (do pure (.value (<-s)):Sem Next) w:=jab h fun _ _ _=>jac _
theorem jpU{s:Sem Unit}(h:jag P s w):jag P (do s;pure .skip:Sem Next) w:=jab h fun _ _ _=>jac _
theorem jjZ(op:BinOp)(t:TypeId)(x y:Operand)(k k':IntKind)(a b:Int):jag P (eqGuard op t x y (.int k a) (.int k' b)) w:=by
 unfold eqGuard;cases op<;>exact jac _
theorem jiW(op:BinOp)(t:TypeId)(x y:Operand)(a b:Bool):jag P (eqGuard op t x y (.bool a) (.bool b)) w:=by
 unfold eqGuard;cases op<;>exact jac _
theorem jhQ(op:BinOp)(t:TypeId)(x y:Operand)(p q:Option Addr)(a b c d:Nat):jag P (eqGuard op t x y (.slice p a b) (.slice q c d)) w:=by
 unfold eqGuard;cases op<;>exact jac _
theorem jj0(op:BinOp)(t:TypeId)(x y:Operand)(p q:Option Addr):jag P (eqGuard op t x y (.pointer p) (.pointer q)) w:=by
 unfold eqGuard;cases op<;>exact jac _
theorem jj1(op:BinOp)(t:TypeId)(x y:Operand)(p q:Array Value)(h:P.eqGuardType P.depth t=false):jag P (eqGuard op t x y (.agg p) (.agg q)) w:=by
 unfold eqGuard;have key:jag P (do
   if !(<-program).eqGuardType (<-program).depth t then return
   if<-Op.eqGuardIn Op.maxDepth t (.agg p) (.agg q)then unsupported (.noEntry "binop/eql: two nil values of an interface type with methods, in a part of a struct or an array"):Sem Unit) w:=by
  refine jak (w':=w) (a:=P) jau rfl (jak (w':=w) (a:=P) jau rfl ?_);rw[h];exact jac _
 cases op<;>first|exact jac _|exact key
theorem jmw(op:BinOp)(t:TypeId)(k k':IntKind)(a b:Int):jag P (binOp op t (.int k a) (.int k' b)) w:=by
 have h1:∀op,jag P (Op.intArith op k a b) w:=fun op=>by unfold Op.intArith;split<;>first|exact jac _|exact jat _
 have h2:∀op,jag P (Op.intDiv op k a b) w:=fun op=>by
  unfold Op.intDiv;split
  ·exact jaj _
  ·split<;>first|exact jac _|exact jat _
 have h3:∀op,jag P (Op.intBits op k a b) w:=fun op=>by unfold Op.intBits;dsimp only;split<;>first|exact jac _|exact jat _
 have h4:∀op,jag P (Op.intCmp op a b) w:=fun op=>by unfold Op.intCmp;split<;>first|exact jac _|exact jat _
 have h5:∀op,jag P (Op.shift op k a k' b) w:=fun op=>by
  unfold Op.shift;split
  ·exact jaj _
  ·dsimp only;split<;>first|exact jac _|exact jat _
 unfold binOp;cases op<;>dsimp only<;>first
  |exact h5 _
  | (split
     ·exact jat _
     ·first|exact h1 _|exact h2 _|exact h3 _|exact h4 _)
theorem jiX{e:TypeId}(hu:P.underlying t=some (.slice e))(b:Option Addr)(n c:Nat):jag P (Op.equal t (.slice b n c) (.slice none 0 0)) w:=by
 show jag P (Op.equalIn (9999+1) t _ _) w;unfold Op.equalIn;refine jak (jaf t) (run_underlying hu w) ?_;cases b<;>exact jac _
theorem jhR{e:TypeId}(hu:P.underlying t=some (.pointer e))(b:Option Addr):jag P (Op.equal t (.pointer b) (.pointer none)) w:=by
 show jag P (Op.equalIn (9999+1) t _ _) w;unfold Op.equalIn;refine jak (jaf t) (run_underlying hu w) ?_;cases b<;>exact jac _
theorem jnL(lk:Nat->FuncId)(env:Env):∀(xs:List AV) (k:IntKind) (n:Int) (v:AV) (w:World),xs.foldl jc1 (some (.int k n))=some v->jag P ((xs.map (AV.val lk env)).foldlM Builtin.max2 (.int k n)) w
 |[],k,n,v,w,_=>jac _
 | y :: ys, k, n, v, w, hv => by
  rw[List.foldl_cons]at hv;have hbad:jc1 (some (.int k n)) y=none->False:=fun e=>by rw[e,jdy (fun _=>rfl)]at hv;cases hv
  cases y with
  |int k' b=>
   by_cases hk:k=k'
   ·subst hk;have ih:=fun w=>jnL lk env ys k (if b>n then b else n) v w (by simpa[jc1]using hv);simp only[List.map_cons,List.foldlM_cons];exact jak (a:=.int k (if b>n then b else n)) (jac _) rfl (ih w)
   ·exact(hbad (by simp[jc1,hk])).elim
  |_=>exact(hbad rfl).elim
theorem jnM(lk:Nat->FuncId)(env:Env):∀(xs:List AV) (k:IntKind) (n:Int) (v:AV) (w:World),xs.foldl jc2 (some (.int k n))=some v->jag P ((xs.map (AV.val lk env)).foldlM Builtin.min2 (.int k n)) w
 |[],k,n,v,w,_=>jac _
 | y :: ys, k, n, v, w, hv => by
  rw[List.foldl_cons]at hv;have hbad:jc2 (some (.int k n)) y=none->False:=fun e=>by rw[e,jdy (fun _=>rfl)]at hv;cases hv
  cases y with
  |int k' b=>
   by_cases hk:k=k'
   ·subst hk;have ih:=fun w=>jnM lk env ys k (if b<n then b else n) v w (by simpa[jc2]using hv);simp only[List.map_cons,List.foldlM_cons];exact jak (a:=.int k (if b<n then b else n)) (jac _) rfl (ih w)
   ·exact(hbad (by simp[jc2,hk])).elim
  |_=>exact(hbad rfl).elim
end
section
variable {C : Ctx} {keep : Keep} {env : Env} {h : Heap} {w : World}
theorem jmx(R:Rel C keep env h w){t kt e:TypeId}{ks:AKey}{z:AV}(ht:C.P.underlying t=some (.map kt e))(hk:keyT C.P kt=some ks){comma:Bool}{m k v:AV}
  (hv:lookA h ks z comma m k=some v):jag C.P (Instr.lookup t (m.val C.lk env) (k.val C.lk env) comma) w:=by
 unfold lookA at hv;split at hv
 ·split at hv
  ·rename_i he;unfold Instr.lookup;refine jak (jaf t) (run_underlying ht w) ?_;simp only[AV.val];refine jak (a:= #[]) (w':=w) (jac _) rfl ?_;refine jab (jgl C.lk true hk he) fun _ w' _=>?_;refine jab (jhP C.lk hk (k:=k) (es:=[]) (ents:=[]) (r:=none) rfl rfl) fun r w' _=>?_;cases r with
   |none=>exact jab (jaq _) fun _ _ _=>jac _
   |some p=>exact jac _
  ·cases hv
 ·rename_i i;split at hv
  ·rename_i es hi;split at hv
   ·rename_i he;simp only[Option.map_eq_some_iff]at hv;obtain⟨r,hr,rfl⟩:=hv;obtain⟨ents,clock,h1,h2⟩:=R.blk i _ hi;unfold Instr.lookup;refine jak (jaf t) (run_underlying ht w) ?_;simp only[AV.val];refine jak (a:=.map ents clock) (w':=w) ?_ (jdz h1) ?_
    ·show ∀o,w.heap[(env i).blk]? =some o->isCells o=false->_;intro o ho _;rw[h1]at ho;cases ho;exact⟨fun x=>(by cases x),fun _=>jac _⟩
    ·refine jak (a:=ents) (w':=w) (jac _) rfl ?_;refine jak (jgl C.lk ents.isEmpty hk he) (jex C.lk ents.isEmpty hk he) ?_;refine jab (jhP C.lk hk h2 hr) fun r w' _=>?_;cases r with
     |none=>exact jab (jaq _) fun _ _ _=>jac _
     |some p=>exact jac _
   ·cases hv
  ·cases hv
 ·cases hv
theorem jhS(R:Rel C keep env h w){t kt e:TypeId}{ks:AKey}(ht:C.P.underlying t=some (.map kt e))(hk:keyT C.P kt=some ks){m k:AV}{v:Value}{v':AV}{h':Heap}
  (hv:jcl h ks m k v'=some h'):jag C.P (Instr.mapUpdate t (m.val C.lk env) (k.val C.lk env) v) w:=by
 unfold jcl at hv;split at hv
 ·rename_i i;split at hv
  ·rename_i es hi;split at hv
   ·rename_i he;simp only[Option.map_eq_some_iff]at hv;obtain⟨es',hs,rfl⟩:=hv;obtain⟨ents,clock,h1,h2⟩:=R.blk i _ hi;have hf:∃r,findA ks k es 0=some r:=by
     unfold setA at hs;split at hs
     ·exact⟨_,by assumption⟩
     ·exact⟨_,by assumption⟩
     ·cases hs
    obtain⟨r,hr⟩:=hf;unfold Instr.mapUpdate;refine jak (jaf t) (run_underlying ht w) ?_;simp only[AV.val];refine jak (a:=.map ents clock) (w':=w) ?_ (jdz h1) ?_
    ·show ∀o,w.heap[(env i).blk]? =some o->isCells o=false->_;intro o ho _;rw[h1]at ho;cases ho;exact⟨fun x=>(by cases x),fun _=>jac _⟩
    ·refine jak (jgl C.lk false hk he) (jex C.lk false hk he) ?_;refine jab (jhP C.lk hk h2 hr) fun r w' _=>?_;split
     ·refine jab ?_ fun _ _ _=>jhD _ rfl rfl;unfold Instr.keyThatStays;split
      ·exact jac _
      ·exact jab (jaI _) fun _ _ _=>jac _
     ·exact jhD _ rfl rfl
   ·cases hv
  ·cases hv
 ·cases hv
theorem jrU{b:Builtin}{args:List AOpd}{argTypes:Array TypeId}{aop:AOp}{ev:AOpd->AV}{v:AV}{ty:TypeId}{consts:Array Bool}{nid:Option Nat}{h':Heap}
  (hl:ja7 C.P b args argTypes=some aop) (hv:aOp nid aop ev h=some (v,h')):
  jag C.P (builtin b argTypes ty consts ((args.map ev).map (AV.val C.lk env)).toArray) w:=by
 have hty:∀d,(argTypes[0]?).bind C.P.underlying=some d->∃t,argTypes[0]? =some t/\C.P.underlying t=some d:=by
  intro d hd;cases ht:argTypes[0]? with
  |none=>simp[ht]at hd
  |some t=>exact⟨t,rfl,by simpa[ht]using hd⟩
 unfold ja7 at hl;split at hl
 ·rename_i x;split at hl
  ·rename_i e hd;obtain⟨t,ht,hu⟩:=hty _ hd;cases hl;have hx:(∃i o n c,ev x=.slice i o n c)\/ev x=.nilslice:=by
    simp only[aOp,pureA]at hv;split at hv
    ·exact .inl ⟨_,_,_,_,by assumption⟩
    ·exact .inr (by assumption)
    ·cases hv
   refine jbp ?_;unfold Builtin.len_;rcases hx with⟨i,o,n,c,hx⟩|hx<;>simp only[ht,hx,List.map_cons,List.map_nil,List.getElem?_toArray,List.getElem?_cons_zero,AV.val]<;>exact jak (jaf t) (run_underlying hu w) (jac _)
  ·rename_i n e hd;obtain⟨t,ht,hu⟩:=hty _ hd;cases hl;refine jbp ?_;unfold Builtin.len_;simp only[ht,List.map_cons,List.map_nil,List.getElem?_toArray,List.getElem?_cons_zero];exact jak (jaf t) (run_underlying hu w) (jac _)
  ·cases hl
 ·rename_i x;split at hl
  ·rename_i e hd;obtain⟨t,ht,hu⟩:=hty _ hd;cases hl;have hx:(∃i o n c,ev x=.slice i o n c)\/ev x=.nilslice:=by
    simp only[aOp,pureA]at hv;split at hv
    ·exact .inl ⟨_,_,_,_,by assumption⟩
    ·exact .inr (by assumption)
    ·cases hv
   refine jbp ?_;unfold Builtin.cap_;rcases hx with⟨i,o,n,c,hx⟩|hx<;>simp only[ht,hx,List.map_cons,List.map_nil,List.getElem?_toArray,List.getElem?_cons_zero,AV.val]<;>exact jak (jaf t) (run_underlying hu w) (jac _)
  ·cases hl
 ·exact jbp (jmv ..)
 ·exact jbp (jpI ..)
 ·cases hl;simp only[aOp,pureA,maxA,Option.map_eq_some_iff,Prod.mk.injEq]at hv;obtain⟨v',hv,rfl,rfl⟩:=hv;split at hv
  ·rename_i xs k a ys e;refine jbp ?_;unfold Builtin.max_;rw[e];exact jnL C.lk env ys k a _ w hv
  ·cases hv
 ·cases hl;simp only[aOp,pureA,minA,Option.map_eq_some_iff,Prod.mk.injEq]at hv;obtain⟨v',hv,rfl,rfl⟩:=hv;split at hv
  ·rename_i xs k a ys e;refine jbp ?_;unfold Builtin.min_;rw[e];exact jnM C.lk env ys k a _ w hv
  ·cases hv
 ·cases hl
end
end Go.Ae
namespace Go.Ae
variable {C : Ctx} {h' : Heap} {v : AV} {w : World} {b : Int} {nid : Option Nat} {t : TypeId} {P : Program}
open Go.Conc
section
variable {C : Ctx} {keep : Keep} {env : Env} {h : Heap} {w : World}
theorem jlf{s:TypeId}{fields:Array Field}{f n:Nat}{fd:Field}(hu:P.underlying s=some (.struct fields))(hf:fields[f]? =some fd)(hn:sizeT P fd.type=some n)(h0:n≠0)(x:Value):jag P (Instr.fieldAt s x f) w:=by
 unfold Instr.fieldAt;refine jak (jaf s) (run_underlying hu w) ?_;dsimp only;rw[hf];dsimp only;refine jab (jaw _) fun a w' _=>?_;refine jab ?_ fun _ _ _=>jac _;unfold fieldPlace;refine jak (jaz _) (ja2 hn w') ?_;rw[if_neg h0];exact jac _
theorem jtA(R:Rel C keep env h w){ρ:Operand->Value}{ev:AOpd->AV}(hρ:∀x ax,lowerOpd C.inv x=some ax->ρ x=(ev ax).val C.lk env/\(ev ax).bel h.ok)
  (hc:∀v,ev (.const v)=v) {o:Oper} {aop:AOp} (hl:lowerOp C.P C.inv o.op=some aop) {nid:Option Nat} {v:AV} {h':Heap} (hv:aOp nid aop ev h=some (v,h')):jag C.P (execOp ρ o) w:=by
 cases hop:o.op with
 |move x=>simp only[execOp,hop];exact jac _
 |assign x=>simp only[execOp,hop];exact jac _
 |pick c a b=>simp only[execOp,hop];exact jab (jaT _) fun _ _ _=>jac _
 |alloc e=>simp only[execOp,hop];exact jbp (jor _)
 |box e x=>simp only[execOp,hop];exact jbp (jrO _ _)
 |build t ps=>simp only[execOp,hop];exact jbp (jos _ _)
 |buildSlice t n ps=>simp only[execOp,hop];exact jbp (jhE _ _ _)
 |load t a=>simp only[execOp,hop];exact jbp (jmo _ _)
 |store t a x=>simp only[execOp,hop];exact jpU (jk2 _ _ _)
 |makeSlice t l c=>simp only[execOp,hop];exact jbp (jiT _ _ _)
 |slice t x lo hi mx=>simp only[execOp,hop];exact jbp (jk4 ..)
 |field t x f=>simp only[execOp,hop];exact jbp (jot ..)
 |indexAddr t x i=>simp only[execOp,hop];exact jbp (jk5 ..)
 |index t x i=>simp only[execOp,hop];exact jbp (jou ..)
 |extract x i=>simp only[execOp,hop];exact jbp (jk6 ..)
 |unOp op t x=>simp only[execOp,hop];exact jbp (jov ..)
 |makeFunc f a c=>simp only[execOp,hop];exact jbp (jac _)
 | fieldAddr s x f =>
  rw[hop]at hl;simp only[lowerOp]at hl;split at hl
  ·rename_i fields x' h1 h2;split at hl
   ·rename_i fd h3;split at hl
    ·rename_i n h4;split at hl
     ·cases hl
     ·rename_i h5;simp only[execOp,hop];exact jbp (jlf h1 h3 h4 h5 _)
    ·cases hl
   ·cases hl
  ·cases hl
 | nilCheck x =>
  rw[hop]at hl;simp only[lowerOp,Option.map_eq_some_iff]at hl;obtain⟨a,ha,rfl⟩:=hl;simp only[execOp,hop,(hρ x a ha).1];simp only[aOp,pureA,Option.map_eq_some_iff,Prod.mk.injEq]at hv;obtain⟨v',hv,_⟩:=hv;split at hv<;>first
   |(rename_i e;rw[e];exact jac _)
   |cases hv
 | convert s d x =>
  rw[hop]at hl;simp only[lowerOp]at hl;split at hl
  ·rename_i x' k0 k h1 h2 h3;cases hl;simp only[aOp,pureA,Option.map_eq_some_iff,Prod.mk.injEq]at hv;obtain⟨v',hv,_⟩:=hv;split at hv
   ·rename_i k1 n e;have e1:=(hρ x x' h1).1;rw[e]at e1;simp only[execOp,hop,e1,AV.val];refine jbp ?_;unfold convert;refine jak (jaf s) (run_underlying h2 w) (jak (jaf d) (run_underlying h3 w) ?_);exact jac _
   ·cases hv
  ·cases hl
 | binOp op xt x y yt =>
  rw[hop]at hl;simp only[lowerOp]at hl;split at hl
  ·rename_i x' y' hx hy;have ex:=(hρ x x' hx).1;have ey:=(hρ y y' hy).1
   -- numbers
   have ints:aop=.bin op x' y'->jag C.P (execOp ρ o) w:=by
    rintro rfl;simp only[aOp,pureA,Option.map_eq_some_iff,Prod.mk.injEq]at hv;obtain⟨v',hv,_⟩:=hv;have hi:∃k a k' b,ev x'=.int k a/\ev y'=.int k' b:=by
     unfold binA at hv;split at hv<;>first
      |exact⟨_,_,_,_,by assumption,by assumption⟩
      |cases hv
    obtain⟨k,a,k',b,e1,e2⟩:=hi;rw[e1]at ex;rw[e2]at ey;simp only[execOp,hop,ex,ey,AV.val];exact jbp (jab (jjZ ..) fun _ _ _=>jmw ..)
   -- bools
   have bools:∀neg,aop=.eqb neg x' y'->C.P.underlying xt=some .bool->(op=.eql\/op=.neq)->jag C.P (execOp ρ o) w:=by
    rintro neg rfl hu ho;simp only[aOp,pureA,Option.map_eq_some_iff,Prod.mk.injEq]at hv;obtain⟨v',hv,_⟩:=hv;split at hv
    ·rename_i a b e1 e2;rw[e1]at ex;rw[e2]at ey;simp only[execOp,hop,ex,ey,AV.val];refine jbp (jab (jiW ..) fun _ _ _=>?_);rcases ho with rfl|rfl<;>exact jab (jhN (d:=9999) hu) fun _ _ _=>jac _
    ·cases hv
   have slices:∀neg e,aop=.eqn neg x'->y'=.const .nilslice->C.P.underlying xt=some (.slice e)->(op=.eql\/op=.neq)->jag C.P (execOp ρ o) w:=by
    rintro neg e rfl rfl hu ho;simp only[aOp,pureA,Option.map_eq_some_iff,Prod.mk.injEq]at hv;obtain⟨v',hv,_⟩:=hv;rw[hc]at ey;split at hv<;>first
     | (rename_i e1
        rw[e1]at ex;simp only[execOp,hop,ex,ey,AV.val];refine jbp (jab (jhQ ..) fun _ _ _=>?_);rcases ho with rfl|rfl<;>exact jab (jiX hu ..) fun _ _ _=>jac _)
     |cases hv
   have ptrs:∀neg e,aop=.eqp neg x'->y'=.const .nilptr->C.P.underlying xt=some (.pointer e)->(op=.eql\/op=.neq)->jag C.P (execOp ρ o) w:=by
    rintro neg e rfl rfl hu ho;simp only[aOp,pureA,Option.map_eq_some_iff,Prod.mk.injEq]at hv;obtain⟨v',hv,_⟩:=hv;rw[hc]at ey;split at hv<;>first
     | (rename_i e1
        rw[e1]at ex;simp only[execOp,hop,ex,ey,AV.val];refine jbp (jab (jj0 ..) fun _ _ _=>?_);rcases ho with rfl|rfl<;>exact jab (jhR hu ..) fun _ _ _=>jac _)
     |cases hv
   have structs:∀neg fs ls,aop=.eqs neg ls x' y'->C.P.underlying xt=some (.struct fs)->C.P.stoodInHeld xt=false->C.P.eqGuardType C.P.depth xt=false->leavesOf2 C.P fs.toList=some ls->(op=.eql\/op=.neq)->jag C.P (execOp ρ o) w:=by
    rintro neg fs ls rfl hu hst hg hls ho;simp only[aOp,pureA,Option.map_eq_some_iff,Prod.mk.injEq]at hv;obtain⟨v',hv,_⟩:=hv;split at hv
    ·rename_i xs ys e1 e2;simp only[Option.map_eq_some_iff]at hv;obtain⟨r,hr,_⟩:=hv;rw[e1]at ex;rw[e2]at ey;simp only[execOp,hop,ex,ey,AV.val,jbn];refine jbp (jab (jj1 _ _ _ _ _ _ hg) fun _ _ _=>?_);rcases ho with rfl|rfl<;>exact jab (jiV C.lk (d:=9997) hu hst hls hr) fun _ _ _=>jac _
    ·cases hv
   split at hl
   ·cases hl;exact ints rfl
   ·cases hl;exact ints rfl
   ·cases hl;exact bools _ rfl (by assumption) (.inl rfl)
   ·cases hl;exact bools _ rfl (by assumption) (.inr rfl)
   ·split at hl
    ·rename_i hh;simp only[Option.map_eq_some_iff]at hl;obtain⟨ls,hls,rfl⟩:=hl;exact structs _ _ _ rfl (by assumption) hh.1 hh.2 hls (.inl rfl)
    ·cases hl
   ·split at hl
    ·rename_i hh;simp only[Option.map_eq_some_iff]at hl;obtain⟨ls,hls,rfl⟩:=hl;exact structs _ _ _ rfl (by assumption) hh.1 hh.2 hls (.inr rfl)
    ·cases hl
   ·split at hl
    ·cases hl;exact slices _ _ rfl rfl (by assumption) (.inl rfl)
    ·cases hl
   ·split at hl
    ·cases hl;exact slices _ _ rfl rfl (by assumption) (.inr rfl)
    ·cases hl
   ·split at hl
    ·cases hl;exact ptrs _ _ rfl rfl (by assumption) (.inl rfl)
    ·cases hl
   ·split at hl
    ·cases hl;exact ptrs _ _ rfl rfl (by assumption) (.inr rfl)
    ·cases hl
   ·cases hl
   ·cases hl
   ·cases hl;exact ints rfl
   ·cases hl
  ·cases hl
 |makeMap t r=>
  rw[hop]at hl;have hl':lowerMap C.P C.inv (.makeMap t r)=some aop:=hl;cases r<;>simp only[lowerMap]at hl'
  ·simp only[execOp,hop,Option.map_none];exact jbp (jab (jdV rfl) fun _ _ _=>jac _)
  ·cases hl'
 |go c=>
  exfalso;rw[hop]at hl;simp only[lowerOp]at hl;split at hl
  ·simp only[Option.map_eq_some_iff]at hl;obtain⟨_,_,rfl⟩:=hl;simp[aOp,pureA]at hv
  ·cases hl
 |recv t x comma=>
  exfalso;rw[hop]at hl;simp only[lowerOp]at hl;split at hl
  ·simp only[Option.map_eq_some_iff]at hl;obtain⟨_,_,rfl⟩:=hl;simp[aOp,pureA]at hv
  ·cases hl
 |send c x=>
  exfalso;rw[hop]at hl;simp only[lowerOp]at hl;split at hl
  ·cases hl;simp[aOp,pureA]at hv
  ·cases hl
 | makeChan t s =>
  simp only[execOp,hop];refine jbp (jab (ja5 _) fun _ _ _=>jab (jaf _) fun d _ _=>?_);split
  ·refine jab (jao _) fun _ _ _=>?_;split
   ·exact jab (jaj _) fun _ _ _=>jab (jdV rfl) fun _ _ _=>jac _
   ·exact jab (jdV rfl) fun _ _ _=>jac _
  ·exact jat _
 | lookup t m k comma =>
  rw[hop]at hl;have hl':lowerMap C.P C.inv (.lookup t m k comma)=some aop:=hl;simp only[lowerMap]at hl';split at hl'
  ·rename_i kt e m' k' h1 h2 h3;split at hl'
   ·rename_i ks z h4 h5;cases hl';simp only[aOp,pureA,Option.map_eq_some_iff,Prod.mk.injEq]at hv;obtain⟨v',hv,_⟩:=hv;simp only[execOp,hop,(hρ m m' h2).1,(hρ k k' h3).1];exact jbp (jmx R h1 h4 hv)
   ·cases hl'
  ·cases hl'
 |mapUpdate t m k x=>
  rw[hop]at hl;have hl':lowerMap C.P C.inv (.mapUpdate t m k x)=some aop:=hl;simp only[lowerMap]at hl';split at hl'
  ·rename_i kt e m' k' x' h1 h2 h3 h4;simp only[Option.map_eq_some_iff]at hl';obtain⟨ks,hks,rfl⟩:=hl';simp only[aOp,Option.map_eq_some_iff,Prod.mk.injEq]at hv;obtain⟨h'',hs,_⟩:=hv;simp only[execOp,hop,(hρ m m' h2).1,(hρ k k' h3).1];exact jpU (jhS R h1 hks hs)
  ·cases hl'
 |insert t m k x=>
  rw[hop]at hl;have hl':lowerMap C.P C.inv (.insert t m k x)=some aop:=hl;simp only[lowerMap]at hl';split at hl'
  ·rename_i kt e m' k' x' h1 h2 h3 h4;simp only[Option.map_eq_some_iff]at hl';obtain⟨ks,hks,rfl⟩:=hl';simp only[aOp,Option.map_eq_some_iff,Prod.mk.injEq]at hv;obtain⟨h'',hs,_⟩:=hv;simp only[execOp,hop,(hρ m m' h2).1,(hρ k k' h3).1];exact jpU (jhS R h1 hks hs)
  ·cases hl'
 | call c =>
  rw[hop]at hl;have hl':jbc C.P C.inv c=some aop:=hl;unfold jbc at hl';split at hl'
  ·rename_i args hargs;have q:=jba hρ hargs;have e1:c.args.map ρ=((args.map ev).map (AV.val C.lk env)).toArray:=by rw[<-q.1,<-jc3]
   split at hl'
   ·simp only[Option.map_eq_some_iff]at hl';obtain⟨f,_,rfl⟩:=hl';simp[aOp,pureA]at hv
   ·rename_i b hcal;simp only[execOp,hop,resolve,hcal];refine jak (w':=w) (jac _) rfl ?_;simp only[invoke,e1];exact jrU hl' hv
   ·cases hl'
  ·cases hl'
 |_=>rw[hop]at hl;simp[lowerOp]at hl
theorem jhT(R:Rel C keep env h w):∃wg,Agree w.heap.size (fun r=>∃i b,h.get i=some b/\b.wr=true/\(env i).blk=r) (fun r=>(∃i b,h.get i=some b/\b≠.dead/\(env i).blk=r)/\∃c t fr,w.heap[r]? =some (.cells c t fr)) w wg/\
  Rel C keep env h wg:=by
 classical
 let Lw:Nat->Prop:=fun r=>∃i b,h.get i=some b/\b.wr=true/\(env i).blk=r
 let Ll:Nat->Prop:=fun r=>∃i b,h.get i=some b/\b≠.dead/\(env i).blk=r
 let g:Nat->Obj->Obj:=fun r o=>if Lw r then o else if Ll r then(match o with|.cells c t _=>.cells c t (0,c.size)|_=>.cells #[] 0 (0,0))else .cells #[] 0 (0,0)
 let wg:World:={w with heap:=Array.ofFn (n:=w.heap.size) fun r=>g r w.heap[r]}
 have hget:∀r,wg.heap[r]? =(w.heap[r]?).map (g r):=by
  intro r;show(Array.ofFn (n:=w.heap.size) fun r=>g r w.heap[r])[r]? =_;by_cases hr:r<w.heap.size
  ·simp[hr]
  ·simp[hr]
 have hsz:wg.heap.size=w.heap.size:=by show(Array.ofFn _).size=_;simp
 have hown:∀r,Lw r->wg.heap[r]? =w.heap[r]? :=by
  intro r hr;rw[hget];cases w.heap[r]? with
  |none=>rfl
  |some o=>simp only[Option.map_some,g,if_pos hr]
 refine⟨wg,⟨hsz,rfl,rfl,Nat.le_refl _,fun r hr=>?_,fun r hr a b=>?_,fun r hr a b=>?_⟩,?_⟩
 ·rcases hr with hr|hr
  ·refine⟨hown r hr,fun o ho=>?_⟩;obtain⟨i,b,hi,hb,rfl⟩:=hr;have:=R.blk i b hi;cases b with
   |cells vs wr u=>
    cases wr with
    |false=>cases hb
    |true=>obtain⟨cur,t,e,_⟩:=this;rw[e]at ho;cases ho;rfl
   |loop r=>obtain⟨_,_,_,_,_,e,_⟩:=this;rw[e]at ho;cases ho;rfl
   |defd o'=>have e:_=_:=this;rw[e]at ho;cases ho;rfl
   |map es=>obtain⟨_,_,e,_⟩:=this;rw[e]at ho;cases ho;rfl
   |chan=>have e:_=_:=this;rw[e]at ho;cases ho;rfl
   |dead=>cases hb
  ·have e1:wg.heap[r]? =none:=Array.getElem?_eq_none (by omega);have e2:w.heap[r]? =none:=Array.getElem?_eq_none (by omega);exact⟨by rw[e1,e2],fun o ho=>by rw[e2]at ho;cases ho⟩
 ·obtain⟨hl,c,t,fr,e⟩:=b;refine⟨c,t,fr,e,?_⟩;rw[hget,e];simp only[Option.map_some,g];rw[if_neg a,if_pos hl]
 ·obtain⟨o,ho⟩:∃o,w.heap[r]? =some o:=⟨_,Array.getElem?_eq_getElem hr⟩;rw[hget,ho];simp only[Option.map_some,g];rw[if_neg a];split
  ·rename_i hl;cases o<;>first|exact⟨_,_,rfl⟩|exact absurd ⟨hl,_,_,_,ho⟩ b
  ·exact⟨_,_,rfl⟩
 ·refine⟨fun i b hi=>by rw[hsz];exact R.lt i b hi,fun i b hi=>?_,R.disj,R.bel,R.kept,fun r hr=>by rw[hsz];exact R.keepLt r hr,R.hid,fun r hr=>by rw[hsz];exact R.hidLt r hr⟩;by_cases hb:b.wr=true
  ·exact(R.blk i b hi).mono (kam h env) (R.bel i b hi) (hown _ ⟨i,b,hi,hb,rfl⟩)
  ·cases b with
   | cells vs wr u =>
    cases wr with
    |true=>exact absurd rfl hb
    | false =>
     intro k v hk;have q:w.cell? ⟨(env i).blk,(env i).sh+k,none⟩=some (v.val C.lk env):=R.blk i _ hi k v hk;rw[<-q];simp only[World.cell?]at q|-;rw[hget];cases ho:w.heap[(env i).blk]? with
     |none=>rw[ho]at q;cases q
     | some o =>
      rw[ho]at q;cases o with
      |cells c t fr=>
       simp only[Option.map_some,g];by_cases h1:Lw (env i).blk
       ·rw[if_pos h1]
       ·rw[if_neg h1,if_pos ⟨i,_,hi,by simp,rfl⟩]
      |_=>cases q
   |dead=>trivial
   |_=>exact absurd rfl hb
theorem jpV(R:Rel C keep env h w){ρ:Operand->Value}{ev:AOpd->AV}(hρ:∀x ax,lowerOpd C.inv x=some ax->ρ x=(ev ax).val C.lk env/\(ev ax).bel h.ok)
  (hc:∀v,ev (.const v)=v) {o:Oper} {aop:AOp} (hl:lowerOp C.P C.inv o.op=some aop) {nid:Option Nat} {v:AV} {h':Heap} (hv:aOp nid aop ev h=some (v,h')) {V:Next} {w':World} (hr:(execOp ρ o).run C.P w=.ok V w'):
  ∀e∈(execOp ρ o).events C.P w #[],EvIn keep w'.heap.size e:=by
 obtain⟨wg,A,Rg⟩:=jhT R;have T:=jtA R hρ hc hl hv;obtain⟨_,wg',Vg,hg,_⟩:=jhM Rg hρ hc hl hv;obtain⟨w1,h1,h2,h3⟩:=jk1 _ w wg #[] Vg wg' A T hg;rw[hr]at h1;cases h1;intro e he;rcases h3 e he with x|x
 ·simp at x
 ·rcases x with⟨s,m,lt,where_⟩|x
  ·refine .inl ⟨s,m,lt,?_,fun hw=>?_⟩
   ·rcases where_ with⟨i,b,hi,hb,e⟩|hn|⟨⟨⟨i,b,hi,hb,e⟩,_⟩,_⟩
    ·rw[<-e];exact R.hid i b hi (by rintro rfl;cases hb)
    ·intro hh;have:=R.hidLt _ hh;omega
    ·rw[<-e];exact R.hid i b hi hb
   ·rcases where_ with⟨i,b,hi,hb,e⟩|hn|⟨_,hf⟩
    ·rw[<-e];exact R.kept i b hi hb
    ·intro hh;have:=R.keepLt _ hh;omega
    ·rw[hf]at hw;cases hw
  ·exact .inr x
end
end Go.Ae
