/- Texts of the proof, part 13: a second reading of the lowered code, proved sound, and what the functions compute. -/
import Derived.Test.YtkbkpjinekcnhaaGreatProg
import Derived.Test.YtkbkpjinekcnhaaGreatF12
set_option linter.unusedSimpArgs false
set_option linter.unusedVariables false
set_option maxRecDepth 20000
set_option maxHeartbeats 4000000
namespace Go.Proofs.YtkbkpjinekcnhaaGreat
open Go.Ae
noncomputable section
def invL:List (Option Nat):=[none,none,none,some 392,some 393,some 394,some 395,some 396,some 366,some 367,some 397,some 398,some 399,some 400,some 401,some 402,some 403,some 368,some 373,some 370,some 374,some 12,some 404,some 23,some 244,some 405,some 330,some 322,some 45,some 276,some 372,some 318,some 375,some 219,some 357,some 377,some 378,some 379,some 406,some 383,some 313,some 381,some 384,some 376,some 387,some 275,some 389,some 314,some 390,some 89,some 279,some 270,some 99,some 407,some 271,some 280,some 380,some 328,some 236,some 232,some 344,some 345,some 346,some 320,some 294,some 295,some 230,some 316,some 70,some 237,some 385,some 255,some 386,some 391,some 331,some 332,some 105,some 220,some 352,some 382,some 292,some 293,some 333,some 298,some 285,some 289,some 286,some 287,some 290,some 288,some 388,some 277,some 88,some 224,some 77,some 251,some 353,some 354,some 335,some 336,some 337,some 301,some 169,some 240,some 176,some 260,some 339,some 340,some 334,some 71,some 302,some 300,some 131,some 303,some 304,some 299,some 137,some 130,some 139,some 296,some 297,some 75,some 246,some 241,some 248,some 358,some 359,some 343,some 177,some 348,some 179,some 184,some 349,some 350,some 172,some 351,some 347,some 142,some 147,some 135,some 141,some 21,some 73,some 91,some 258,some 360,some 361,some 181,some 182,some 150,some 183,some 355,some 356,some 76,some 90,some 146,some 149,some 25,some 41,some 37,some 38,some 42,some 43,some 39,some 187,some 188,some 189,some 180,some 74,some 100,some 151,some 152,some 46,some 47,some 50,some 51,some 52,some 27,some 30,some 53,some 54,some 35,some 201,some 154,some 72,some 81,some 104,some 153,some 56,some 49,some 33,some 92,some 93,some 57,some 58,some 59,some 60,some 95,some 61,some 101,some 102,none,none,none,none,none,none,none,none,none,none,none,none,none,none,none,none,none]
def lkL:List Nat:=[0,0,0,0,0,0,0,0,0,0,0,0,21,0,0,0,0,0,0,0,0,141,0,23,0,157,0,177,0,0,178,0,0,190,0,181,0,159,160,163,0,158,161,162,0,28,172,173,0,189,174,175,176,179,180,0,188,193,194,195,196,198,0,0,0,0,0,0,0,0,68,109,184,142,168,121,153,94,0,0,0,185,0,0,0,0,0,0,92,49,154,143,191,192,0,197,0,0,0,52,169,199,200,0,186,76,0,0,0,0,0,0,0,0,0,0,0,0,0,0,0,0,0,0,0,0,0,0,0,0,117,112,0,0,0,139,0,116,0,118,0,140,137,0,0,0,155,138,0,156,149,170,171,187,183,0,0,0,0,0,0,0,0,0,0,0,0,0,0,102,0,0,134,0,0,0,104,128,0,130,167,147,148,150,131,0,0,164,165,166,0,0,0,0,0,0,0,0,0,0,0,182,0,0,0,0,0,0,0,0,0,0,0,0,0,0,0,0,0,33,77,0,0,0,93,0,0,0,0,0,66,0,59,0,0,0,58,69,0,0,103,123,0,0,24,0,122,0,124,0,0,95,0,0,0,71,0,0,144,0,105,0,0,0,0,0,0,0,0,0,51,54,0,0,0,45,29,91,0,50,55,0,0,0,0,84,86,87,89,85,88,0,80,81,64,65,119,120,83,115,111,101,110,113,114,0,0,0,0,0,0,0,0,40,47,0,67,0,31,0,63,0,27,0,0,0,0,0,57,0,26,74,75,82,108,98,99,100,0,106,107,0,0,127,60,61,62,136,129,132,133,135,78,96,97,151,152,34,125,126,145,146,0,0,0,0,8,9,17,0,19,0,30,18,20,32,43,35,36,37,56,41,79,39,42,70,72,44,90,46,48,73,3,4,5,6,7,10,11,12,13,14,15,16,22,25,38,53]
theorem invOk:((List.range invL.length).all fun f=>match invL.getD f none with|some g=>lkL.getD g 0==f|none=>true)=true:=by decide+kernel
noncomputable def ctx:Ctx where
 P:=Tryz.prog
 lk:=fun g=>lkL.getD g 0
 inv:=fun f=>invL.getD f none
 hinv:=by
  intro f g h;have hlt:f<invL.length:=by
   rcases Nat.lt_or_ge f invL.length with x|x
   ·exact x
   ·rw[List.getD_eq_getElem?_getD,List.getElem?_eq_none x]at h;cases h
  have:=List.all_eq_true.1 invOk f (by simpa using hlt);rw[h]at this;simpa using this
 mixed:=by kernel_rfl
 main:=true
 fam:=fun J=>∃p:Prop,J=fun _ _ _=>p
 closed:=by rintro J ⟨p,rfl⟩;exact kaG _ _ _
 ends := fun p => ⟨_, ⟨p, rfl⟩, fun _ _ _ h => h, fun _ _ h => h⟩
theorem has:Has ctx TA:=by
 have h:TA.map ctx.body=TA.map tab:=by kernel_rfl
 intro g hg b hb;rw[<-hb];exact List.map_inj_left.1 h g hg
end
end Go.Proofs.YtkbkpjinekcnhaaGreat
namespace Go.Ae
variable {C : Ctx} {h h' : Heap} {v : AV} {n sz g : Nat} {cs vs args : List AV}
theorem kae{g:Nat}{args:List AV}{h:Heap}{P:AV->Heap->Prop}{Q:AV->Heap->Prop}(hc:ACalls C g args h P)
  (hq:∀r h',P r h'->(r.free/\HSub h h'/\Q r h)):ACalls C g args h Q:=by
 refine⟨hc.1,fun extra kp env w R hb=>?_⟩;refine(hc.2 extra kp env w R hb).mono ?_;rintro kp' v' w' ⟨env1,r,h1,rfl,hP,R1,K1,X1,L1,_⟩;obtain⟨hf,hs,hQ⟩:=hq r h1 hP;have hget:∀i b,h.get i=some b->h1.get i=some b:=fun i b hb=>(hs.get i (kab hb)).trans hb;refine⟨env1,r,h,rfl,hQ,?_,K1,X1,kax _,bel_mono (fun _ hh=>hh.elim) r hf⟩;exact⟨fun i b hi=>R1.lt i b (hget i b hi),fun i b hi=>R1.blk i b (hget i b hi),fun i j b c hi hj=>R1.disj i j b c (hget i b hi) (hget j c hj),R.bel,
  fun i b hi=>R1.kept i b (hget i b hi),R1.keepLt,fun i b hi=>R1.hid i b (hget i b hi),R1.hidLt⟩
theorem jcX(h:∀v∈vs,v.free):(AV.tuple vs).free:=(ja9 _ _).2 h
theorem jae{nt:Nat}{rd:Option Nat}{c:ACode}{Q:Out->St->Prop}{t:Nat->AV}{h:Heap}{m:List Nat}(I:Nat->(Nat->AV)->Heap->Prop){j0:Nat}(h0:I j0 t h)
  (step:∀j t' h',I j t' h'->wp C nt rd c (thenO (fun st'=>st'.m=m/\∃i,I i st'.t st'.h/\i<j) Q) ⟨t',h',m⟩):wp C nt rd (.loop c) Q ⟨t,h,m⟩:=
 jtL (I:=fun j st=>st.m=m/\I j st.t st.h) (j0:=j0) ⟨rfl,h0⟩
  (fun j u h' m' _ hI=>by
   obtain⟨hm,hI⟩:=hI;have hm:m'=m:=hm;subst hm;refine jmG ?_ (step j _ _ hI);intro o st' hq;cases o with
   |normal=>obtain⟨a,i,b,d⟩:=hq;exact⟨i,d,a,b⟩
   |exit id=>exact hq
   |ret=>exact hq)
  (fun hQ hw=>jmG hQ hw)
def loI:Option AV->Option Int
 |some v=>intA v
 |none=>some 0
def hiI(len:Nat)(mx:Bool):Option AV->Option Int
 |some v=>intA v
 |none=>if mx then none else some (len:Int)
def mxI(cap:Nat):Option AV->Option Int
 |some v=>intA v
 |none=>some (cap:Int)
theorem jqe(len cap:Nat)(lo hi mx:Option AV):jca len cap lo hi mx=(match mxI cap mx,hiI len mx.isSome hi,loI lo with
 |some m,some hh,some l=>if 0<=l/\l<=hh/\hh<=m/\m<=cap then some (l.toNat,hh.toNat,m.toNat)else none
 |_,_,_=>none):=by
 cases lo<;>cases hi<;>cases mx<;>rfl
theorem jcE{len cap:Nat}{lo hi mx:Option AV}{a b c:Nat}(hlo:loI lo=some (a:Int))(hhi:hiI len mx.isSome hi=some (b:Int))
  (hmx:mxI cap mx=some (c:Int)) (hab:a<=b/\b<=c/\c<=cap):jca len cap lo hi mx=some (a,b,c):=by
 rw[jqe,hlo,hhi,hmx];dsimp only;rw[if_pos (by omega)];simp
theorem kbS{h:Heap}{sz n:Nat}{v:AV}{cs:List AV}(H:SL h sz v n cs){lo hi mx:Option AV}{a b c:Nat}(hlo:loI lo=some (a:Int))
  (hhi:hiI n mx.isSome hi=some (b:Int)) (hmx:∀m,mx=some m->intA m=some (c:Int)) (hab:a<=b/\b<=n/\(mx.isSome=true->b<=c/\c<=n)) (hne:a<b\/a=0\/mx.isSome=true):
  ∃v',jaO h sz v lo hi mx=some v'/\SL h sz v' (b-a) (cut cs (a*sz) ((b-a)*sz)):=by
 obtain⟨hl,hlt,⟨rfl,rfl⟩|⟨i,o,cp,vs,wr,u,rfl,hg,hle,hc,hcap⟩⟩:=H
 ·have ea:a=0:=by omega
  have eb:b=0:=by omega
  subst ea eb;have:cs=[]:=List.eq_nil_of_length_eq_zero (by omega);subst this;refine⟨.nilslice,?_,by simp[cut],by omega,.inl ⟨rfl,rfl⟩⟩;cases mx with
  |none=>simp only[jaO];rw[jcE (a:=0) (b:=0) (c:=0) hlo hhi rfl (by omega)]
  |some m=>
   have hc0:c=0:=by have:=hab.2.2 rfl;omega
   subst hc0;simp only[jaO];rw[jcE (a:=0) (b:=0) (c:=0) hlo hhi (hmx _ rfl) (by omega)]
 ·have hb:b*sz<=n*sz:=Nat.mul_le_mul_right _ hab.2.1;have hba:(b-a)*sz=b*sz-a*sz:=Nat.sub_mul _ _ _;have hab':a*sz<=b*sz:=Nat.mul_le_mul_right _ hab.1;have hlen:(cut cs (a*sz) ((b-a)*sz)).length=(b-a)*sz:=by
   simp only[cut,List.length_take,List.length_drop,hl];omega
  have hcut:cut vs (o+a*sz) ((b-a)*sz)=cut cs (a*sz) ((b-a)*sz):=by
   subst hc;simp only[cut,List.drop_take,List.drop_drop,List.take_take];rw[Nat.min_eq_left (by omega)]
  have key:∀(cc:Nat),b<=cc->cc<=n\/mx=none->(match cp with|.known c0=>cc<=c0|.unk _=>cc<=n)->
    (∀m,mx=some m->intA m=some (cc:Int))->(mx=none->match cp with|.known c0=>cc=c0|.unk _=>cc=n)->
    ∃v',jaO h sz (.slice i o n cp) lo hi mx=some v'/\SL h sz v' (b-a) (cut cs (a*sz) ((b-a)*sz)):=by
   intro cc h1 h2 h3 h4 h5;cases cp with
   | known c0 =>
    have hbd:jca n c0 lo hi mx=some (a,b,cc):=by
     refine jcE hlo hhi ?_ ⟨hab.1,h1,h3⟩;cases mx with
     |none=>have h5:=h5 rfl;simp only at h5;subst h5;rfl
     |some m=>exact h4 m rfl
    simp only[jaO,hbd];by_cases e:cc=a
    ·subst e;have:b=cc:=by omega
     subst this;refine⟨_,rfl,?_,by omega,.inr ⟨i,o,_,vs,wr,u,by rw[if_pos rfl],hg,by simp;omega,by simp[cut],by simp⟩⟩;simp[cut]
    ·refine⟨_,rfl,hlen,by omega,.inr ⟨i,o+a*sz,_,vs,wr,u,by rw[if_neg e],hg,by omega,hcut,by dsimp only;omega⟩⟩
   | unk l0 =>
    obtain⟨rfl,rfl,rfl⟩:=hcap;have hbd:jca n n lo hi mx=some (a,b,cc):=by
     refine jcE hlo hhi ?_ ⟨hab.1,h1,h3⟩;cases mx with
     |none=>have h5:=h5 rfl;simp only at h5;subst h5;rfl
     |some m=>exact h4 m rfl
    simp only[jaO,hg];rw[if_pos ⟨trivial,trivial,hle⟩];simp only[hbd];cases mx with
    |none=>
     simp only[Option.isSome_none,Bool.false_eq_true,if_false];rw[if_pos (by simp at hne;omega)];exact⟨_,rfl,hlen,by omega,.inr ⟨i,l0*u+a*u,_,vs,true,u,rfl,hg,by omega,hcut,rfl,rfl,by rw[Nat.add_mul]⟩⟩
    | some m =>
     simp only[Option.isSome_some,if_true];by_cases e:cc=a
     ·subst e;have:b=cc:=by omega
      subst this;refine⟨_,rfl,?_,by omega,.inr ⟨i,l0*u,_,vs,true,u,by rw[if_pos rfl],hg,by simp;omega,by simp[cut],by simp⟩⟩;simp[cut]
     ·exact⟨_,rfl,hlen,by omega,.inr ⟨i,l0*u+a*u,_,vs,true,u,by rw[if_neg e],hg,by omega,hcut,by dsimp only;omega⟩⟩
  cases mx with
  |some m=>
   have:=hab.2.2 rfl;refine key c this.1 (.inl this.2) ?_ hmx (by intro h;cases h);cases cp with
   |known c0=>exact Nat.le_trans this.2 hcap
   |unk l0=>exact this.2
  |none=>
   cases cp with
   |known c0=>exact key c0 (Nat.le_trans hab.2.1 hcap) (.inr rfl) (Nat.le_refl _) (by intro m h;cases h) (fun _=>rfl)
   |unk l0=>exact key n hab.2.1 (.inr rfl) (Nat.le_refl _) (by intro m h;cases h) (fun _=>rfl)
theorem RI.part{h:Heap}{v:AV}{l:List Int}(H:RI h v l){lo hi mx:Option AV}{a b c:Nat}(hlo:loI lo=some (a:Int))
  (hhi:hiI l.length mx.isSome hi=some (b:Int)) (hmx:∀m,mx=some m->intA m=some (c:Int)) (hab:a<=b/\b<=l.length/\(mx.isSome=true->b<=c/\c<=l.length)) (hne:a<b\/a=0\/mx.isSome=true):
  ∃v',jaO h 1 v lo hi mx=some v'/\RI h v' ((l.drop a).take (b-a)):=by
 obtain⟨v',e,H'⟩:=kbS H hlo hhi hmx hab hne;refine⟨v',e,?_⟩;have hl:((l.drop a).take (b-a)).length=b-a:=by simp;omega
 unfold RI;rw[hl];rw[Nat.mul_one,Nat.mul_one,jnU]at H';exact H'
theorem kbA(H:SL h sz v n cs){x:Nat}(hx:h.size<=x):jdF v.rids [x]:=by
 obtain⟨hl,hlt,⟨rfl,rfl⟩|⟨i,o,cp,vs,wr,u,rfl,hg,_⟩⟩:=H
 ·simp[jdF,AV.rids]
 ·have:=kab hg;cases cp<;>simp[jdF,AV.rids];omega
theorem kbh(H:SL h sz v n cs)(hs:HSub h h'){s2:Nat}{lo hi mx:Option AV}:jaO h' s2 v lo hi mx=jaO h s2 v lo hi mx:=by
 obtain⟨hl,hlt,⟨rfl,rfl⟩|⟨i,o,cp,vs,wr,u,rfl,hg,_⟩⟩:=H
 ·rfl
 ·have e:h'.get i=h.get i:=hs.get i (kab hg);cases cp with
  |known c=>rfl
  |unk l=>simp only[jaO,e]
section
variable {h : Heap} {v : AV} {l : List Int} {k1 k2 k3 : IntKind} {a b c : Int}
theorem kbe(H:RI h v l)(hab:0<=a/\a<=b/\b<=c/\c<=l.length):∃v',jaO h 1 v (some (.int k1 a)) (some (.int k2 b)) (some (.int k3 c))=some v'/\RI h v' ((l.drop a.toNat).take (b.toNat-a.toNat)):=
 H.part (c:=c.toNat) (by simp only[loI,intA];congr 1;omega) (by simp only[hiI,intA];congr 1;omega) (by intro m e;cases e;simp only[intA];congr 1;omega) (by omega) (.inr (.inr rfl))
theorem kbj(H:RI h v l)(hab:0<=b/\b<=c/\c<=l.length):∃v',jaO h 1 v none (some (.int k2 b)) (some (.int k3 c))=some v'/\RI h v' (l.take b.toNat):=by
 have:=H.part (lo:=none) (hi:=some (.int k2 b)) (mx:=some (.int k3 c)) (a:=0) (b:=b.toNat) (c:=c.toNat) rfl (by simp only[hiI,intA];congr 1;omega) (by intro m e;cases e;simp only[intA];congr 1;omega) (by omega) (.inr (.inr rfl));simpa using this
theorem kbs(H:RI h v l)(hab:0<=b/\b<=l.length):∃v',jaO h 1 v none (some (.int k2 b)) none=some v'/\RI h v' (l.take b.toNat):=by
 have:=H.part (lo:=none) (hi:=some (.int k2 b)) (mx:=none) (a:=0) (b:=b.toNat) (c:=0) rfl (by simp only[hiI,intA];congr 1;omega) (by intro m e;cases e) (by simp;omega) (by omega);simpa using this
theorem RI.part_abc(H:RI h v l)(hab:0<=a/\a<=b/\b<=c/\c<=l.length):∃v',(∀h',HSub h h'->jaO h' 1 v (some (.int k1 a)) (some (.int k2 b)) (some (.int k3 c))=some v')/\RI h v' ((l.drop a.toNat).take (b.toNat-a.toNat)):=by
 obtain⟨v',e,r⟩:=kbe (k1:=k1) (k2:=k2) (k3:=k3) H hab;exact⟨v',fun h' hs=>(kbh H hs).trans e,r⟩
theorem RI.part_bc(H:RI h v l)(hab:0<=b/\b<=c/\c<=l.length):∃v',(∀h',HSub h h'->jaO h' 1 v none (some (.int k2 b)) (some (.int k3 c))=some v')/\RI h v' (l.take b.toNat):=by
 obtain⟨v',e,r⟩:=kbj (k2:=k2) (k3:=k3) H hab;exact⟨v',fun h' hs=>(kbh H hs).trans e,r⟩
theorem RI.part_b(H:RI h v l)(hab:0<=b/\b<=l.length):∃v',(∀h',HSub h h'->jaO h' 1 v none (some (.int k2 b)) none=some v')/\RI h v' (l.take b.toNat):=by
 obtain⟨v',e,r⟩:=kbs (k2:=k2) H hab;exact⟨v',fun h' hs=>(kbh H hs).trans e,r⟩
end
def appKB(h:Heap)(nid:Option Nat)(sz bytes i o n c m:Nat)(news:List AV):Option ABlk->Option (AV×Heap)
 | some (.cells vs true u) => if o + n * sz <= vs.length then
    if n+m<=c then
     if o+(n+m)*sz<=vs.length/\news.all AV.one=true then some (.slice i o (n+m) (.known c),h.put i (.cells (splice vs (o+n*sz) news) true u))else none
    else if(n+m)*bytes<=2^40/\h.room nid=true then some (.slice (h.nid nid) 0 (n+m) (.unk 0),h.new nid (.cells (cut vs o (n*sz)++news) true sz))else none
   else none
 |some (.cells vs false _)=>if o+n*sz<=vs.length/\c<n+m/\(n+m)*bytes<=2^40/\h.room nid=true then
    some (.slice (h.nid nid) 0 (n+m) (.unk 0),h.new nid (.cells (cut vs o (n*sz)++news) true sz))else none
 |_=>none
theorem app_known{h nid sz bytes i o n c m news}(hm:m≠0):jav h nid sz bytes (.slice i o n (.known c)) m news=appKB h nid sz bytes i o n c m news (h.get i):=by
 simp only[jav,if_neg hm,appKB];cases h.get i with
 |none=>rfl
 |some b=>cases b with
  |cells vs wr u=>cases wr<;>rfl
  |_=>rfl
theorem appKB_grow{h:Heap}{sz bytes i o n c m:Nat}{news vs:List AV}{u:Nat}(h1:o+n*sz<=vs.length)(h2:c<n+m)(h3:(n+m)*bytes<=1099511627776):
  appKB h none sz bytes i o n c m news (some (.cells vs true u))=some (.slice h.size 0 (n+m) (.unk 0),h.push (.cells (cut vs o (n*sz)++news) true sz)):=by
 simp only[appKB];rw[if_pos h1,if_neg (by omega),if_pos ⟨h3,rfl⟩];rfl
theorem appKB_room{h:Heap}{nid:Option Nat}{sz bytes i o n c m:Nat}{news vs:List AV}{u:Nat}(h1:o+n*sz<=vs.length)(h2:n+m<=c)(h3:o+(n+m)*sz<=vs.length)(h4:news.all AV.one=true):
  appKB h nid sz bytes i o n c m news (some (.cells vs true u))=some (.slice i o (n+m) (.known c),h.put i (.cells (splice vs (o+n*sz) news) true u)):=by
 simp only[appKB];rw[if_pos h1,if_pos h2,if_pos ⟨h3,h4⟩]
def appUB(h:Heap)(nid:Option Nat)(sz bytes i o n l m:Nat)(news:List AV):Option ABlk->Option (AV×Heap)
 | some (.cells vs true u) => if u = sz /\ o = l * sz /\ o + n * sz <= vs.length /\ news.all AV.one = true /\ (n + m) * bytes <= 2 ^ 40 /\ h.room nid = true /\ 0 < m then
    some (.slice (h.nid nid) 0 (n+m) (.unk 0),(h.put i .dead).new nid (.cells (cut vs o (n*sz)++news) true sz))
   else if u=sz/\o=l*sz/\o+n*sz<=vs.length/\m=0 then some (.slice i o n (.unk l),h)else none
 |_=>none
theorem app_unk{h nid sz bytes i o n l m news}:jav h nid sz bytes (.slice i o n (.unk l)) m news=appUB h nid sz bytes i o n l m news (h.get i):=by
 simp only[jav,appUB];cases h.get i with
 |none=>rfl
 |some b=>cases b with
  |cells vs wr u=>cases wr<;>rfl
  |_=>rfl
theorem appUB_grow{h:Heap}{sz bytes i n m:Nat}{news vs:List AV}(h1:n*sz<=vs.length)(h2:0<m)(h3:(n+m)*bytes<=1099511627776)(h4:news.all AV.one=true):
  appUB h none sz bytes i 0 n 0 m news (some (.cells vs true sz))=some (.slice h.size 0 (n+m) (.unk 0),(h.put i .dead).push (.cells (cut vs 0 (n*sz)++news) true sz)):=by
 simp only[appUB];rw[if_pos ⟨trivial,by omega,by omega,h4,h3,rfl,h2⟩];rfl
theorem app_nil{h:Heap}{sz bytes m:Nat}{news:List AV}(h1:m≠0)(h2:m*bytes<=1099511627776):jav h none sz bytes .nilslice m news=some (.slice h.size 0 m (.unk 0),h.push (.cells news true sz)):=by
 simp only[jav,if_neg h1];rw[if_pos ⟨h2,rfl⟩];rfl
theorem app_nil0{h:Heap}{nid:Option Nat}{sz bytes:Nat}{news:List AV}:jav h nid sz bytes .nilslice 0 news=some (.nilslice,h):=rfl
theorem appA_some{nid sz bytes h s m news}:appA nid sz bytes h s (some (m,news))=jav h nid sz bytes s m news:=rfl
class HoldL where
 run:ALoop->Prop
def jg1(o:Option ABlk) [K:HoldL]:Prop:=
 match o with
 |some (.loop r)=>K.run r
 |_=>False
theorem atLoop_some{r:ALoop}{K:ALoop->Prop}: @jg1 (some (.loop r)) ⟨K⟩=K r:=rfl
theorem jeQ{o:Option ABlk}{K:ALoop->Prop}: @jg1 o ⟨K⟩↔∃r,o=some (.loop r)/\K r:=by
 cases o with
 |none=>simp[jg1]
 |some b=>cases b<;>simp[jg1]
theorem beginO_normal{nt l:Nat}{body:ACode}{Post:AV->Heap->Prop}{st:St}:jnS C nt l body Post .normal st=
  @jg1 (st.h.get l) ⟨fun r=>r.state=.ready/\wp C nt (some l) body (jfV l Post) ⟨st.t,st.h.put l (.loop {r with state:=.busy}),st.m⟩⟩:=by
 simp only[jnS,true_and];exact propext jeQ.symm
theorem roundO_normal{l:Nat}{Post:AV->Heap->Prop}{st:St}:jfV l Post .normal st=
  @jg1 (st.h.get l) ⟨fun r=>Post (.bool true) (st.h.put l (.loop {r with state:=.ready,pend:=none}))⟩:=by
 simp only[jfV,ne_eq,not_true_eq_false,false_implies,true_implies,and_true];exact propext jeQ.symm
theorem roundO_exit{l i:Nat}{Post:AV->Heap->Prop}{st:St}:jfV l Post (.exit i) st=
  @jg1 (st.h.get l) ⟨fun r=>Post (.bool false) (st.h.put l (.loop {r with state:=.done,pend:=some (.exit i)}))⟩:=by
 simp only[jfV,ne_eq,reduceCtorEq,not_false_eq_true,false_implies,true_implies,true_and];exact propext jeQ.symm
theorem roundO_ret{l:Nat}{Post:AV->Heap->Prop}{st:St}:jfV l Post .ret st=
  @jg1 (st.h.get l) ⟨fun r=>Post (.bool false) (st.h.put l (.loop {r with state:=.done,pend:=some .ret}))⟩:=by
 simp only[jfV,ne_eq,reduceCtorEq,not_false_eq_true,false_implies,true_implies,true_and];exact propext jeQ.symm
theorem setParams_nil{t:Nat->AV}:jbW t [] []=t:=rfl
theorem setParams_cons{t:Nat->AV}{p:Nat}{ps:List Nat}{a:AV}{xs:List AV}:jbW t (p::ps) (a::xs)=jbW (upd t p a) ps xs:=rfl
abbrev loop0(t:Nat->AV)(nt:Nat)(ps:List Nat)(a b:ACode)(d:Nat):ALoop:={state:=.ready,pend:=none,t:=t,nt:=nt,params:=ps,assign:=a,body:=b,defers:=d}
theorem kal{K:HoldR}(k:∀H,H=h->@jaa C g args H K): @jaa C g args h K:=k h rfl
theorem kaq{d:ABlk}{r:ALoop}{P:AV->Heap->Prop}(k:∀R,R=r->ACalls C g args ((h.push d).push (.loop R)) P):ACalls C g args ((h.push d).push (.loop r)) P:=k r rfl
theorem jdG{R:ALoop}(h1:R.state=.ready)(h2:R.pend=none):({state:=.ready,pend:=none,t:=R.t,nt:=R.nt,params:=R.params,assign:=R.assign,body:=R.body,defers:=R.defers}:ALoop)=R:=by
 cases R;cases h1;cases h2;rfl
def jlt(o:Option ABlk) [K:Hold]:Prop:=
 match o with
 |some (.defd true)=>K.run
 |_=>False
theorem atDefd_some{p:Prop}: @jlt (some (.defd true)) ⟨p⟩=p:=rfl
theorem retO_marks{res Post t h i m}:retO res Post .ret ⟨t,h,i::m⟩=@jlt (h.get i) ⟨retO res Post .ret ⟨t,h.put i (.defd false),m⟩⟩:=by
 simp only[retO,jbe,jlt];cases h.get i with
 |none=>rfl
 |some b=>cases b with
  |defd o=>cases o<;>rfl
  |_=>rfl
theorem retO_marksN{res Post t h i m}:retO res Post .normal ⟨t,h,i::m⟩=@jlt (h.get i) ⟨retO res Post .normal ⟨t,h.put i (.defd false),m⟩⟩:=by
 simp only[retO,jbe,jlt];cases h.get i with
 |none=>rfl
 |some b=>cases b with
  |defd o=>cases o<;>rfl
  |_=>rfl
theorem jb5{nt g:Nat}{f c:List AV}{ps:List Nat}{a b:ACode}{Q:Out->St->Prop}{t:Nat->AV}{h:Heap}{m:List Nat}{D:Heap->Prop}
  (hc:ACalls C g (f++[.yield (h.size+1)]++c) ((h.push (.defd true)).push (.loop (loop0 t nt ps a b h.size))) (fun _ h'=>D h'))
  (hk:∀h',D h'->∃r,h'.get (h.size+1)=some (.loop r)/\r.state≠.busy/\Q (r.pend.getD .normal) ⟨t,h'.put (h.size+1) (.loop {r with state:=.exhausted}),h.size::m⟩):
  jfk C nt none (.func g f c) ps a b Q ⟨t,h,m⟩:=by
 show ACalls C g _ _ _;exact hc.mono fun _ h'=>hk h'
end Go.Ae
