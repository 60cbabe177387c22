/- Texts of the proof, part 5: a second reading of the lowered code, proved sound, and what the functions compute. -/
import Derived.CallsIn
import Derived.RangeFuncLeaves
import Derived.Below
import Derived.Test.YtkbkpjinekcnhaaGreatF4
set_option linter.unusedSimpArgs false
set_option linter.unusedVariables false
set_option maxRecDepth 20000
set_option maxHeartbeats 4000000
namespace Go.Ae
inductive Cap where
 |known (c:Nat)
 |unk (l:Nat)
 deriving DecidableEq,Repr,Inhabited
inductive AV where
 |int (k:IntKind) (n:Int)
 |bool (b:Bool)
 |ptr (i off:Nat)
 |nilptr
 |slice (i off len:Nat) (cap:Cap)
 |nilslice
 |func (g:Nat) (first captured:List AV)
 |yield (l:Nat)
 |nilfunc
 |map (i:Nat)
 |nilmap
 |chan (i:Nat)
 |nilchan
 |str (bs:List Nat)
 |agg (vs:List AV)
 |tuple (vs:List AV)
 deriving Inhabited,Repr
structure EB where
 blk:Nat
 sh:Nat
 cap:Nat
 deriving Inhabited
abbrev Env:=Nat->EB
def Cap.at:Cap->EB->Nat
 |.known c,_=>c
 |.unk l,e=>e.cap-l
mutual
def AV.val(lk:Nat->FuncId)(env:Env):AV->Value
 |.int k n=>.int k n
 |.bool b=>.bool b
 |.ptr i o=>.pointer (some ⟨(env i).blk,(env i).sh+o,none⟩)
 |.nilptr=>.pointer none
 |.slice i o n c=>.slice (some ⟨(env i).blk,(env i).sh+o,none⟩) n (c.at (env i))
 |.nilslice=>.slice none 0 0
 |.func g f c=>.func (.func (lk g)) (AV.vals lk env f).toArray (AV.vals lk env c).toArray
 |.yield l=>.func (.yield (env l).blk) #[] #[]
 |.nilfunc=>.nilFunc
 |.map i=>.map (some (env i).blk)
 |.nilmap=>.map none
 |.chan i=>.chan (some (env i).blk)
 |.nilchan=>.chan none
 |.str bs=>.string ⟨(bs.map UInt8.ofNat).toArray⟩
 |.agg vs=>.agg (AV.vals lk env vs).toArray
 |.tuple vs=>.tuple (AV.vals lk env vs).toArray
def AV.vals(lk:Nat->FuncId)(env:Env):List AV->List Value
 |[]=>[]
 |v::vs=>v.val lk env::AV.vals lk env vs
end
mutual
def AV.bel(p:Nat->Prop):AV->Prop
 |.ptr i _=>p i
 |.slice i _ _ _=>p i
 |.yield i=>p i
 |.map i=>p i
 |.chan i=>p i
 |.func _ f c=>kar p f/\kar p c
 |.agg vs=>kar p vs
 |.tuple vs=>kar p vs
 |_=>True
def kar(p:Nat->Prop):List AV->Prop
 |[]=>True
 |v::vs=>v.bel p/\kar p vs
end
theorem jbn(lk:Nat->FuncId)(env:Env)(vs:List AV):AV.vals lk env vs=vs.map (AV.val lk env):=by
 induction vs with
 |nil=>rfl
 |cons v vs ih=>simp[AV.vals,ih]
theorem ja9(n:Nat->Prop)(vs:List AV):kar n vs↔∀v∈vs,v.bel n:=by
 induction vs with
 |nil=>simp[kar]
 |cons v vs ih=>simp[kar,ih]
mutual
theorem jes{lk:Nat->FuncId}{env env':Env}{p:Nat->Prop}(h:∀i,p i->env' i=env i):(v:AV)->v.bel p->v.val lk env'=v.val lk env
 |.int _ _,_=>rfl
 |.bool _,_=>rfl
 |.ptr i o,b=>by simp only[AV.val,h i b]
 |.nilptr,_=>rfl
 |.slice i o m c,b=>by simp only[AV.val,h i b]
 |.nilslice,_=>rfl
 |.func g f c,b=>by simp only[AV.val,jdw h f b.1,jdw h c b.2]
 |.yield l,b=>by simp only[AV.val,h l b]
 |.nilfunc,_=>rfl
 |.map i,b=>by simp only[AV.val,h i b]
 |.nilmap,_=>rfl
 |.chan i,b=>by simp only[AV.val,h i b]
 |.nilchan,_=>rfl
 |.str _,_=>rfl
 |.agg vs,b=>by simp only[AV.val,jdw h vs b]
 |.tuple vs,b=>by simp only[AV.val,jdw h vs b]
theorem jdw{lk:Nat->FuncId}{env env':Env}{p:Nat->Prop}(h:∀i,p i->env' i=env i):(vs:List AV)->kar p vs->AV.vals lk env' vs=AV.vals lk env vs
 |[],_=>rfl
 |v::vs,b=>by simp only[AV.vals,jes h v b.1,jdw h vs b.2]
end
mutual
theorem bel_mono{p q:Nat->Prop}(h:∀i,p i->q i):(v:AV)->v.bel p->v.bel q
 |.int _ _,_=>trivial
 |.bool _,_=>trivial
 |.ptr _ _,b=>h _ b
 |.nilptr,_=>trivial
 |.slice _ _ _ _,b=>h _ b
 |.nilslice,_=>trivial
 |.func _ f c,b=>⟨jet h f b.1,jet h c b.2⟩
 |.yield _,b=>h _ b
 |.nilfunc,_=>trivial
 |.map _,b=>h _ b
 |.nilmap,_=>trivial
 |.chan _,b=>h _ b
 |.nilchan,_=>trivial
 |.str _,_=>trivial
 |.agg vs,b=>jet h vs b
 |.tuple vs,b=>jet h vs b
theorem jet{p q:Nat->Prop}(h:∀i,p i->q i):(vs:List AV)->kar p vs->kar q vs
 |[],_=>trivial
 |v::vs,b=>⟨bel_mono h v b.1,jet h vs b.2⟩
end
def AV.cells:AV->List AV
 |.agg vs=>vs
 |v=>[v]
def AV.one:AV->Bool
 |.agg _|.tuple _=>false
 |_=>true
abbrev AV.undef:AV:=.tuple []
theorem jfE(lk:Nat->FuncId)(env:Env)(v:AV):(v.val lk env).cells=(v.cells.map (AV.val lk env)).toArray:=by
 cases v<;>simp[AV.val,AV.cells,Value.cells,jbn]
theorem jhF{n:Nat->Prop}{v:AV}(h:v.bel n):∀x∈v.cells,x.bel n:=by
 cases v<;>simp only[AV.cells,List.mem_singleton,forall_eq]<;>first|exact h|exact(ja9 _ _).1 h
inductive AOpd where
 |tmp (t:Nat)
 |const (v:AV)
 deriving Inhabited,Repr
inductive AKey where
 |int
 |bool
 |struct (ls:List (Nat×Bool))
 deriving Inhabited,Repr
inductive AOp where
 |mv (x:AOpd)
 |pick (c a b:AOpd)
 |alloc (z:List AV)
 |box (x:AOpd)
 |build (z:List AV) (parts:List (Nat×Nat×AOpd))
 |buildSlice (n:Nat) (z:List AV) (parts:List (Nat×Nat×AOpd))
 |load (agg:Bool) (n:Nat) (x:AOpd)
 |store (n:Nat) (x v:AOpd)
 |nilCheck (x:AOpd)
 |bin (op:BinOp) (x y:AOpd)
 |eqb (neg:Bool) (x y:AOpd)
 |eqs (neg:Bool) (leaves:List (Nat×Bool)) (x y:AOpd)
 |eqn (neg:Bool) (x:AOpd)
 |eqp (neg:Bool) (x:AOpd)
 |strIdx (x i:AOpd)
 |un (op:UnOp) (x:AOpd)
 |conv (k:IntKind) (x:AOpd)
 |mkfunc (g:Nat) (first captured:List AOpd)
 |makeSlice (z:List AV) (bytes:Nat) (l c:AOpd)
 |slice (sz:Nat) (x:AOpd) (lo hi mx:Option AOpd)
 |fieldAddr (off:Nat) (x:AOpd)
 |field (agg:Bool) (off n:Nat) (x:AOpd)
 |indexAddr (sz:Nat) (x i:AOpd)
 |indexArr (sz len:Nat) (x i:AOpd)
 |index (agg:Bool) (sz len:Nat) (x i:AOpd)
 |extract (x:AOpd) (i:Nat)
 |len (x:AOpd)
 |cap (x:AOpd)
 |append (sz bytes:Nat) (s x:AOpd)
 |appendMake (z:List AV) (bytes:Nat) (s x:AOpd)
 |copy (sz:Nat) (d s:AOpd)
 |max (xs:List AOpd)
 |min (xs:List AOpd)
 |makeMap
 |makeChan
 |mapUpd (ks:AKey) (m k v:AOpd)
 |lookup (ks:AKey) (z:AV) (comma:Bool) (m k:AOpd)
 |call (f:AOpd) (args:List AOpd)
 |comm (k:Nat) (xs:List AOpd)
 |refuse (what:String)
 deriving Inhabited,Repr
structure AOper where
 dst:Option Nat
 op:AOp
 guard:Option (Nat×Bool)
 deriving Inhabited,Repr
structure DItem where
 k:Nat
 mem:Bool
 ck:List Nat
 o:AOper
 deriving Inhabited,Repr
inductive ACode where
 |skip
 |region (ops:List AOper)
 |draw (n:Nat) (ops:List DItem)
 |seq (a b:ACode)
 |cond (c:AOpd) (a b:ACode)
 |block (id:Nat) (body:ACode)
 |loop (body:ACode)
 |rangeFunc (f:AOpd) (params:List Nat) (assign body:ACode)
 |exit (id:Nat)
 |ret
 |refuse (what:String)
 deriving Inhabited,Repr
inductive ARes where
 |tmp (t:Nat)
 |cell (t:Nat) (agg:Bool) (n:Nat)
 deriving Inhabited,Repr
structure ABody where
 nparams:Nat
 ntmps:Nat
 res:List ARes
 code:ACode
 deriving Inhabited,Repr
inductive Out where
 |normal
 |exit (id:Nat)
 |ret
 deriving DecidableEq,Inhabited
structure ALoop where
 state:LoopState
 pend:Option Out
 t:Nat->AV
 nt:Nat
 params:List Nat
 assign:ACode
 body:ACode
 defers:Nat
inductive ABlk where
 |cells (vs:List AV) (wr:Bool) (unit:Nat)
 |loop (r:ALoop)
 |defd (opened:Bool)
 |map (es:List (AV×AV))
 |chan
 |dead
def ABlk.wr:ABlk->Bool
 |.cells _ wr _=>wr
 |.dead=>false
 |_=>true
def ABlk.bel(p:Nat->Prop):ABlk->Prop
 |.cells vs _ _=>∀v∈vs,v.bel p
 |.loop r=>(∀s,(r.t s).bel p)/\p r.defers
 |.defd _=>True
 |.map es=>∀e∈es,e.1.bel p/\e.2.bel p
 |.chan=>True
 |.dead=>True
theorem kao{p q:Nat->Prop}(h:∀i,p i->q i){b:ABlk}(hb:b.bel p):b.bel q:=by
 cases b with
 |cells vs wr u=>exact fun v hv=>Ae.bel_mono h v (hb v hv)
 |loop r=>exact⟨fun s=>Ae.bel_mono h _ (hb.1 s),h _ hb.2⟩
 |defd o=>trivial
 |map es=>exact fun e he=>⟨Ae.bel_mono h _ (hb e he).1,Ae.bel_mono h _ (hb e he).2⟩
 |chan=>trivial
 |dead=>trivial
structure Heap where
 size:Nat
 get:Nat->Option ABlk
 wf:∀i,size<=i->get i=none
def Heap.ok(h:Heap)(i:Nat):Prop:=(h.get i).isSome=true
theorem kaA{h:Heap}{i:Nat}(hi:h.ok i):i<h.size:=by
 rcases Nat.lt_or_ge i h.size with x|x
 ·exact x
 ·simp[Heap.ok,h.wf i x]at hi
theorem kab{h:Heap}{i:Nat}{b:ABlk}(hi:h.get i=some b):i<h.size:=kaA (by simp[Heap.ok,hi])
def Heap.push(h:Heap)(b:ABlk):Heap:=
 ⟨h.size+1,fun i=>if i=h.size then some b else h.get i,fun i hi=>by rw[if_neg (by omega)];exact h.wf i (by omega)⟩
def Heap.put(h:Heap)(i:Nat)(b:ABlk):Heap:=
 ⟨h.size,fun j=>if j=i then(if i<h.size then some b else none)else h.get j,fun j hj=>by
  by_cases e:j=i
  ·rw[if_pos e,if_neg (by omega)]
  ·rw[if_neg e];exact h.wf j hj⟩
def Heap.reserve(h:Heap)(k:Nat):Heap:=⟨h.size+k,h.get,fun i hi=>h.wf i (by omega)⟩
def Heap.nid(h:Heap):Option Nat->Nat
 |none=>h.size
 |some n=>n
def Heap.new(h:Heap)(n:Option Nat)(b:ABlk):Heap:=
 match n with
 |none=>h.push b
 |some n=>h.put n b
def Heap.room(h:Heap):Option Nat->Bool
 |none=>true
 |some n=>(h.get n).isNone&&decide (n<h.size)
@[simp] theorem Heap.size_push (h:Heap) (b:ABlk):(h.push b).size=h.size+1:=rfl
@[simp] theorem Heap.size_put (h:Heap) (i:Nat) (b:ABlk):(h.put i b).size=h.size:=rfl
@[simp] theorem Heap.size_reserve (h:Heap) (k:Nat):(h.reserve k).size=h.size+k:=rfl
theorem kap(h:Heap)(b:ABlk)(i:Nat):(h.push b).get i=if i=h.size then some b else h.get i:=rfl
theorem kaj(h:Heap)(i j:Nat)(b:ABlk)(hi:i<h.size):(h.put i b).get j=if j=i then some b else h.get j:=by
 show(if j=i then(if i<h.size then some b else none)else h.get j)=_;rw[if_pos hi]
@[simp] theorem Heap.get_reserve (h:Heap) (k i:Nat):(h.reserve k).get i=h.get i:=rfl
structure St where
 t:Nat->AV
 h:Heap
 m:List Nat
def upd(t:Nat->AV)(s:Nat)(v:AV):Nat->AV:=fun i=>if i=s then v else t i
def St.put(st:St)(d:Option Nat)(v:AV):St:=
 match d with
 |none=>st
 |some s=>{st with t:=upd st.t s v}
def AOpd.ev(t:Nat->AV):AOpd->AV
 |.tmp s=>t s
 |.const v=>v
def ofCell:Value->Option AV
 |.int k n=>some (.int k n)
 |.bool b=>some (.bool b)
 |.pointer none=>some .nilptr
 |.slice none 0 0=>some .nilslice
 |.nilFunc=>some .nilfunc
 |.string s=>some (.str (s.data.toList.map UInt8.toNat))
 |.map none=>some .nilmap
 |.chan none=>some .nilchan
 |_=>none
def ofCells:List Value->Option (List AV)
 |[]=>some []
 |v::vs=>match ofCell v,ofCells vs with
  |some a,some zas=>some (a::zas)
  |_,_=>none
def ofVal:Value->Option AV
 |.agg cs=>(ofCells cs.toList).map .agg
 |v=>ofCell v
theorem jhG{v:Value}{a:AV}(h:ofCell v=some a)(lk:Nat->FuncId)(env:Env)(p:Nat->Prop):a.val lk env=v/\a.bel p/\a.one=true/\a.cells=[a]:=by
 unfold ofCell at h;split at h
 case h_6 s=>
  cases h;refine⟨?_,trivial,rfl,rfl⟩;simp only[AV.val,List.map_map];have:(UInt8.ofNat∘UInt8.toNat)=id:=by funext x;simp
  rw[this,List.map_id]
 all_goals first|(cases h;exact⟨rfl,trivial,rfl,rfl⟩)|cases h
theorem jeu(lk:Nat->FuncId)(env:Env)(p:Nat->Prop):∀{vs:List Value} {zas:List AV},ofCells vs=some zas->zas.map (AV.val lk env)=vs/\(∀a∈zas,a.bel p)/\∀a∈zas,a.one=true
 |[],zas,h=>by cases h;simp
 | v :: vs, zas, h => by
  unfold ofCells at h;split at h
  ·rename_i a as' h1 h2;cases h;have x:=jhG h1 lk env p;have y:=jeu lk env p h2;refine⟨by simp[x.1,y.1],?_,?_⟩
   ·intro b hb;rcases List.mem_cons.1 hb with rfl|hb
    ·exact x.2.1
    ·exact y.2.1 b hb
   ·intro b hb;rcases List.mem_cons.1 hb with rfl|hb
    ·exact x.2.2.1
    ·exact y.2.2 b hb
  ·cases h
theorem jgf{v:Value}{a:AV}(h:ofVal v=some a)(lk:Nat->FuncId)(env:Env)(p:Nat->Prop):a.val lk env=v/\a.bel p:=by
 unfold ofVal at h;split at h
 ·rename_i cs;cases hc:ofCells cs.toList with
  |none=>simp[hc]at h
  |some zas=>
   simp[hc]at h;subst h;have x:=jeu lk env p hc;refine⟨by simp[AV.val,jbn,x.1],?_⟩;exact(ja9 _ _).2 x.2.1
 ·have x:=jhG h lk env p;exact⟨x.1,x.2.1⟩
section
variable (P : Program) (inv : FuncId -> Option Nat)
def zcells(t:TypeId):Option (List AV):=
 match P.info? t with
 |some i=>match i.zero with
  |some z=>if z.cells.size=i.size then ofCells z.cells.toList else none
  |none=>none
 |none=>none
def aggT(t:TypeId):Option Bool:=
 match P.underlying t with
 |some (.struct _)|some (.array _ _)=>some true
 |some _=>some false
 |none=>none
def sizeT(t:TypeId):Option Nat:=(P.info? t).map (·.size)
def jk7(t:TypeId):Option Nat:=(P.info? t).map (·.bytes)
def lowerOpd:Operand->Option AOpd
 |.tmp t=>some (.tmp t)
 |.const v=>(ofVal v).map .const
 |.global _=>none
 |.func f=>(inv f).map fun g=>.const (.func g [] [])
def lowerOpds:List Operand->Option (List AOpd)
 |[]=>some []
 |x::xs=>match lowerOpd inv x,lowerOpds xs with
  |some a,some zas=>some (a::zas)
  |_,_=>none
def lowerOpt:Option Operand->Option (Option AOpd)
 |none=>some none
 |some x=>(lowerOpd inv x).map some
def jcU(place:Nat->Option (Nat×Nat)):List (Nat×Operand)->Option (List (Nat×Nat×AOpd))
 |[]=>some []
 |(i,x)::rest=>match place i,lowerOpd inv x,jcU place rest with
  |some (o,n),some a,some zas=>some ((o,n,a)::zas)
  |_,_,_=>none
def jdW(fs:List Field):Option (List (Nat×Nat)):=
 match fs with
 |[]=>some []
 |f::rest=>match sizeT P f.type,jdW rest with
  |some n,some r=>some ((f.offset,n)::r)
  |_,_=>none
def jbF(t:TypeId)(parts:Array (Nat×Operand)):Option AOp:=
 match zcells P t,P.underlying t with
 |some z,some (.struct fields)=>match jdW P fields.toList with
  |some ps=>(jcU inv (fun i=>ps[i]?) parts.toList).map (.build z ·)
  |none=>none
 |some z,some (.array _ e)=>match sizeT P e with
  |some n=>(jcU inv (fun i=>some (i*n,n)) parts.toList).map (.build z ·)
  |none=>none
 |_,_=>none
def jaL(t:TypeId)(len:Nat)(parts:Array (Nat×Operand)):Option AOp:=
 match P.underlying t with
 |some (.slice e)=>match zcells P e,sizeT P e with
  |some z,some n=>if len*n<=2^20/\0<n then(jcU inv (fun i=>some (i*n,n)) parts.toList).map (.buildSlice len (List.replicate len z).flatten ·)else none
  |_,_=>none
 |_=>none
def ja7(b:Builtin)(args:List AOpd)(argTypes:Array TypeId):Option AOp:=
 match b,args with
 |.len,[x]=>match (argTypes[0]?).bind P.underlying with
  |some (.slice _)=>some (.len x)
  |some (.array n _)=>some (.mv (.const (.int .i64 n)))
  |_=>none
 |.cap,[x]=>match (argTypes[0]?).bind P.underlying with
  |some (.slice _)=>some (.cap x)
  |_=>none
 | .append, [s, x] => match (argTypes[0]?).bind P.underlying with
  | some (.slice e) => match zcells P e, jk7 P e, sizeT P e, argTypes[1]? with
   |some z,some by_,some n,some xt=>match P.underlying xt with
    |some (.int _)=>if 0<n/\0<by_/\by_<=4096 then some (.appendMake z by_ s x)else none
    |some _=>if 0<n/\0<by_/\by_<=4096 then some (.append n by_ s x)else none
    |none=>none
   |_,_,_,_=>none
  |_=>none
 |.copy,[d,s]=>match (argTypes[0]?).bind P.underlying with
  |some (.slice e)=>(sizeT P e).map fun n=>.copy n d s
  |_=>none
 |.max,xs=>some (.max xs)
 |.min,xs=>some (.min xs)
 |_,_=>none
def jbc(c:Call):Option AOp:=
 match lowerOpds inv c.args.toList with
 |some args=>match c.callee with
  |.value f=>(lowerOpd inv f).map fun f=>.call f args
  |.builtin b=>ja7 P b args c.argTypes
  |.invoke _ _=>none
 |none=>none
def leavesOf:List Field->Option (List (Nat×Bool))
 |[]=>some []
 |f::fs=>if f.name= "_" then none else match P.underlying f.type,leavesOf fs with
  |some (.int _),some ls=>some ((f.offset,false)::ls)
  |some .bool,some ls=>some ((f.offset,true)::ls)
  |_,_=>none
def leavesOf2:List Field->Option (List (Nat×Bool))
 |[]=>some []
 | f :: fs => if f.name = "_" then none else match P.underlying f.type, leavesOf2 fs with
  |some (.int _),some ls=>some ((f.offset,false)::ls)
  |some .bool,some ls=>some ((f.offset,true)::ls)
  |some (.struct gs),some ls=>if P.stoodInHeld f.type=false then match leavesOf P gs.toList,sizeT P f.type with
   |some ms,some n=>if(ms.all fun p=>decide (p.1<n))=true then some ((ms.map fun p=>(f.offset+p.1,p.2))++ls)else none
   |_,_=>none
   else none
  |_,_=>none
def keyT(k:TypeId):Option AKey:=
 match P.underlying k with
 |some (.int _)=>some .int
 |some .bool=>some .bool
 |some (.struct fs)=>if P.stoodInHeld k=false then(leavesOf P fs.toList).map .struct else none
 |_=>none
def zeroT(t:TypeId):Option AV:=
 match P.info? t with
 |some i=>match i.zero with
  |some z=>ofVal z
  |none=>none
 |none=>none
def lowerMap:Op->Option AOp
 |.makeMap t none=>match P.underlying t with
  |some (.map _ _)=>some .makeMap
  |_=>none
 |.mapUpdate t m k v=>match P.underlying t,lowerOpd inv m,lowerOpd inv k,lowerOpd inv v with
  |some (.map kt _),some m,some k,some v=>(keyT P kt).map fun ks=>.mapUpd ks m k v
  |_,_,_,_=>none
 |.insert t m k v=>match P.underlying t,lowerOpd inv m,lowerOpd inv k,lowerOpd inv v with
  |some (.map kt _),some m,some k,some v=>(keyT P kt).map fun ks=>.mapUpd ks m k v
  |_,_,_,_=>none
 | .lookup t m k comma => match P.underlying t, lowerOpd inv m, lowerOpd inv k with
  |some (.map kt e),some m,some k=>match keyT P kt,zeroT P e with
   |some ks,some z=>some (.lookup ks z comma m k)
   |_,_=>none
  |_,_,_=>none
 |_=>none
def lowerOp:Op->Option AOp
 |.move x=>(lowerOpd inv x).map .mv
 |.assign x=>(lowerOpd inv x).map .mv
 |.pick c a b=>match lowerOpd inv c,lowerOpd inv a,lowerOpd inv b with
  |some c,some a,some b=>some (.pick c a b)
  |_,_,_=>none
 |.alloc e=>(zcells P e).map .alloc
 |.box _ x=>(lowerOpd inv x).map .box
 |.build t parts=>jbF P inv t parts
 |.buildSlice t len parts=>jaL P inv t len parts
 |.load t a=>match lowerOpd inv a,aggT P t,sizeT P t with
  |some a,some g,some n=>some (.load g n a)
  |_,_,_=>none
 |.store t a x=>match lowerOpd inv a,lowerOpd inv x,sizeT P t with
  |some a,some x,some n=>some (.store n a x)
  |_,_,_=>none
 |.nilCheck x=>(lowerOpd inv x).map .nilCheck
 | .binOp op xt x y _ => match lowerOpd inv x, lowerOpd inv y with
  | some x, some y => match op, P.underlying xt with
   |.eql,some (.int _)|.neq,some (.int _)=>some (.bin op x y)
   |.eql,some .bool=>some (.eqb false x y)
   |.neq,some .bool=>some (.eqb true x y)
   |.eql,some (.struct fs)=>if P.stoodInHeld xt=false/\P.eqGuardType P.depth xt=false then(leavesOf2 P fs.toList).map fun ls=>.eqs false ls x y else none
   |.neq,some (.struct fs)=>if P.stoodInHeld xt=false/\P.eqGuardType P.depth xt=false then(leavesOf2 P fs.toList).map fun ls=>.eqs true ls x y else none
   |.eql,some (.slice _)=>match y with
    |.const .nilslice=>some (.eqn false x)
    |_=>none
   |.neq,some (.slice _)=>match y with
    |.const .nilslice=>some (.eqn true x)
    |_=>none
   |.eql,some (.pointer _)=>match y with
    |.const .nilptr=>some (.eqp false x)
    |_=>none
   |.neq,some (.pointer _)=>match y with
    |.const .nilptr=>some (.eqp true x)
    |_=>none
   |.eql,_|.neq,_=>none
   |_,some (.int _)=>some (.bin op x y)
   |_,_=>none
  |_,_=>none
 |.unOp op xt x=>match lowerOpd inv x,P.underlying xt with
  |some x,some (.int _)|some x,some .bool=>some (.un op x)
  |_,_=>none
 |.convert s d x=>match lowerOpd inv x,P.underlying s,P.underlying d with
  |some x,some (.int _),some (.int k)=>some (.conv k x)
  |_,_,_=>none
 |.makeFunc (.func f) first captured=>match inv f,lowerOpds inv first.toList,lowerOpds inv captured.toList with
  |some g,some a,some c=>some (.mkfunc g a c)
  |_,_,_=>none
 | .makeSlice t l c => match P.underlying t, lowerOpd inv l, lowerOpd inv c with
  |some (.slice e),some l,some c=>match zcells P e,jk7 P e with
   |some z,some by_=>if 0<z.length then some (.makeSlice z by_ l c)else none
   |_,_=>none
  |_,_,_=>none
 | .slice t x lo hi mx => match P.underlying t, lowerOpd inv x, lowerOpt inv lo, lowerOpt inv hi, lowerOpt inv mx with
  |some (.slice e),some x,some lo,some hi,some mx=>match sizeT P e with
   |some n=>if 0<n then some (.slice n x lo hi mx)else none
   |none=>none
  |_,_,_,_,_=>none
 | .fieldAddr s x f => match P.underlying s, lowerOpd inv x with
  | some (.struct fields), some x => match fields[f]? with
   |some fd=>match sizeT P fd.type with
    |some n=>if n=0 then none else some (.fieldAddr fd.offset x)
    |none=>none
   |none=>none
  |_,_=>none
 | .field t x f => match P.underlying t, lowerOpd inv x with
  | some (.struct fields), some x => match fields[f]? with
   |some fd=>match aggT P fd.type,sizeT P fd.type with
    |some g,some n=>some (.field g fd.offset n x)
    |_,_=>none
   |none=>none
  |_,_=>none
 |.indexAddr t x i=>match P.underlying t,lowerOpd inv x,lowerOpd inv i with
  |some (.slice e),some x,some i=>(sizeT P e).map fun n=>.indexAddr n x i
  |some (.array len e),some x,some i=>(sizeT P e).map fun n=>.indexArr n len x i
  |_,_,_=>none
 | .index t x i => match P.underlying t, lowerOpd inv x, lowerOpd inv i with
  |some (.array len e),some x,some i=>match aggT P e,sizeT P e with
   |some g,some n=>some (.index g n len x i)
   |_,_=>none
  |some .string,some x,some i=>some (.strIdx x i)
  |_,_,_=>none
 |.extract x i=>(lowerOpd inv x).map fun x=>.extract x i
 |.call c=>jbc P inv c
 |.makeMap t r=>lowerMap P inv (.makeMap t r)
 |.mapUpdate t m k v=>lowerMap P inv (.mapUpdate t m k v)
 |.insert t m k v=>lowerMap P inv (.insert t m k v)
 |.lookup t m k c=>lowerMap P inv (.lookup t m k c)
 |.makeChan t s=>match P.underlying t,lowerOpd inv s with
  |some (.chan _ e),some (.const (.int _ 0))=>(P.info? e).map fun _=>.makeChan
  |_,_=>none
 |.go c=>match c.callee,lowerOpds inv c.args.toList with
  |.value f,some args=>(lowerOpd inv f).map fun f=>.comm 0 (f::args)
  |_,_=>none
 |.recv t x comma=>match comma,P.underlying t,lowerOpd inv x with
  |false,some (.chan _ e),some x=>(zeroT P e).map fun _=>.comm 1 [x]
  |_,_,_=>none
 |.send c x=>match lowerOpd inv c,lowerOpd inv x with
  |some c,some x=>some (.comm 2 [c,x])
  |_,_=>none
 |_=>none
def dstOk(nt:Nat):Option Nat->Bool
 |none=>true
 |some d=>decide (d<nt)
def jbO(ops:Array Oper):Option (Nat×Bool)->Option (Option (Nat×Bool))
 |none=>some none
 |some (j,want)=>match (ops[j]?).bind (·.dst)with
  |some d=>some (some (d,want))
  |none=>none
def jar(nt:Nat)(ops:Array Oper)(o:Oper):AOper:=
 match lowerOp P inv o.op,dstOk nt o.dst,jbO ops o.guard with
 |some a,true,some g=>{dst:=o.dst,op:=a,guard:=g}
 |_,_,_=>{dst:=none,op:=.refuse "",guard:=none}
def cls:AOp->Nat
 |.load .. |.slice .. |.lookup .. =>1
 |.call .. =>2
 |.store .. |.mapUpd .. =>3
 |.copy .. |.append .. |.appendMake .. |.makeMap|.makeChan=>4
 |.alloc .. |.box .. |.buildSlice .. |.makeSlice .. =>5
 |.refuse _|.comm .. =>6
 |_=>0
def ka9:AOpd->List Nat
 |.tmp t=>[t]
 |.const _=>[]
def AOp.opds:AOp->List AOpd
 |.mv x|.eqn _ x|.eqp _ x|.box x|.load _ _ x|.nilCheck x|.un _ x|.conv _ x|.fieldAddr _ x|.field _ _ _ x|.extract x _|.len x|.cap x=>[x]
 |.pick c a b=>[c,a,b]
 |.alloc _|.makeMap|.makeChan=>[]
 |.mapUpd _ m k v=>[m,k,v]
 |.lookup _ _ _ m k=>[m,k]
 |.build _ ps|.buildSlice _ _ ps=>ps.map (·.2.2)
 |.store _ x y|.bin _ x y|.eqb _ x y|.eqs _ _ x y|.makeSlice _ _ x y|.indexAddr _ x y|.indexArr _ _ x y|.index _ _ _ x y|.strIdx x y|.append _ _ x y|.appendMake _ _ x y|.copy _ x y=>[x,y]
 |.mkfunc _ a c=>a++c
 |.slice _ x lo hi mx=>x::(lo.toList++hi.toList++mx.toList)
 |.max xs|.min xs=>xs
 |.call f xs=>f::xs
 |.comm _ xs=>xs
 |.refuse _=>[]
def AOp.reads(op:AOp):List Nat:=op.opds.flatMap ka9
def AOper.looks(o:AOper):List Nat:=o.op.reads++(match o.guard with|some (s,_)=>[s]|none=>[])
def jpJ(x y:AOper):Bool:=
 (match x.dst with|some d=> !y.looks.contains d&&y.dst !=some d|none=>true)&&(match y.dst with|some d=> !x.looks.contains d|none=>true)
def autoB(cx cy:Nat):Bool:=(cx<=1&&cy<=1)||cx==0||cy==0||(cx !=2&&cy==5)
def pairB(x y:AOper):Bool:=
 let cx:=cls x.op
 let cy:=cls y.op
 jpJ x y&&cx !=6&&cy !=6&&(if cx==2 then cy==5 else if cy==2 then cx<=1 else true)
def jcw(acc:List Nat)(o:Oper):List Nat:=
 acc++[o.after.toList.foldl (fun s e=>if Region.binds .any e then s|||2^e.on|||acc.getD e.on 0 else s) 0]
def masks(ops:Array Oper):List Nat:=ops.toList.foldl jcw []
def tri:Nat->List Nat->List AOper->List (Nat×Nat×Nat)
 |i,m::ms,o::os=>(i,m,cls o.op)::tri (i+1) ms os
 |_,_,_=>[]
def best(listed:Nat):List (Nat×Nat×Nat)->Option (Nat×Nat)->Option (Nat×Nat)
 |[],b=>b
 | (i, m, c) :: rest, b => match listed.testBit i with
  |true=>best listed rest b
  | false => match Nat.beq (m &&& listed) m with
   |false=>best listed rest b
   | true => match b with
    |none=>best listed rest (some (c,i))
    |some (c',j)=>match Nat.blt c c' with
     |true=>best listed rest (some (c,i))
     |false=>best listed rest (some (c',j))
def greedy(ms:List Nat)(os:List AOper):Nat->Nat->List Nat
 |0,_=>[]
 |fuel+1,listed=>match best listed (tri 0 ms os) none with
  |some (_,i)=>i::greedy ms os fuel (listed|||2^i)
  |none=>[]
def jnD(ms:List Nat)(os:List AOper):List Nat->Bool
 |[]=>true
 |x::ys=>ys.all (fun y=>(ms.getD y 0).testBit x||pairB (os.getD x default) (os.getD y default))&&jnD ms os ys
def jhj(ms:List Nat)(os:List AOper)(ahead:List Nat)(y:Nat):List Nat:=
 let cy:=cls (os.getD y default).op
 ahead.filter fun x=>let cx:=cls (os.getD x default).op; !(ms.getD y 0).testBit x&&(if cx==2 then cy==5 else if cy==2 then cx==1 else !autoB cx cy)
def jcM(ms:List Nat)(os:List AOper):List Nat->List Nat->List (Nat×List Nat)
 |_,[]=>[]
 |ahead,y::ys=>(y,jhj ms os ahead y)::jcM ms os (ahead++[y]) ys
def backB(ops:Array Oper):Bool:=ops.toList.zipIdx.all fun(o,i)=>o.after.toList.all fun e=> !Region.binds .any e||decide (e.on<i)
def nodupB:List Nat->Bool
 |[]=>true
 |x::xs=> !xs.contains x&&nodupB xs
def jev(nt:Nat)(ops:Array Oper):Option (Nat×List DItem):=
 let os:=ops.toList.map (jar P inv nt ops)
 let ms:=masks ops
 let l:=greedy ms os os.length 0
 if(List.range os.length).all (fun i=>l.contains i)=true/\nodupB l=true/\l.all (fun i=>decide (i<os.length))=true/\backB ops=true/\jnD ms os l=true then
  let its:=jcM ms os [] l
  let cks:=its.flatMap (·.2)
  some ((if os.any (fun o=>decide (4<=cls o.op))then os.length else 0),its.map fun(k,ck)=>{k,mem:=cks.contains k,ck,o:=os.getD k default})
 else none
def jad(nt:Nat):Code->ACode
 |.skip=>.skip
 |.region _ ops false=>.region (ops.toList.map (jar P inv nt ops))
 |.region _ ops true=>match jev P inv nt ops with
  |some (n,l)=>.draw n l
  |none=>.refuse ""
 |.seq a b=>.seq (jad nt a) (jad nt b)
 |.cond c a b=>match lowerOpd inv c with
  |some c=>.cond c (jad nt a) (jad nt b)
  |none=>.refuse ""
 |.block id b=>.block id (jad nt b)
 |.loop b=>.loop (jad nt b)
 |.rangeFunc f ps a b=>match lowerOpd inv f with
  |some f=>if ps.all (fun p=>decide (p<nt))then .rangeFunc f ps.toList (jad nt a) (jad nt b)else .refuse ""
  |none=>.refuse ""
 |.exit id=>.exit id
 |.ret=>.ret
 |.label _=>.skip
 |.scope _=>.refuse ""
 |.goto _=>.refuse ""
 |.refuse _=>.refuse ""
def lowerRes:ResultVar->Option ARes
 |.tmp t=>some (.tmp t)
 |.cell a t=>match aggT P t,sizeT P t with
  |some g,some n=>some (.cell a g n)
  |_,_=>none
def lowerRess:List ResultVar->Option (List ARes)
 |[]=>some []
 |r::rs=>match lowerRes P r,lowerRess rs with
  |some a,some zas=>some (a::zas)
  |_,_=>none
def jjN(f:FuncId):Option ABody:=
 match P.funcs[f]? with
 |some fn=>if fn.name= "runtime.NumGoroutine" then none else match fn.body,lowerRess P fn.results.toList with
  |some c,some rs=>some {nparams:=fn.params.size,ntmps:=fn.ntmps,res:=rs,code:=jad P inv fn.ntmps c}
  |_,_=>none
 |none=>none
end
end Go.Ae
