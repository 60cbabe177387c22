/- Texts of the proof, part 16: a second reading of the lowered code, proved sound, and what the functions compute. -/
import Derived.Test.YthapekoffnjeeaaS15
set_option linter.unusedSimpArgs false
set_option linter.unusedVariables false
set_option maxRecDepth 20000
set_option maxHeartbeats 4000000
namespace Go.Ae
variable {C : Ctx} {h h' : Heap} {v vp : AV} {p : PlanP} {w : World} {env : Env} {i n sz u : Nat} {cs vs : List AV} {nid : Option Nat}
section
variable {C : Ctx} {nt : Nat} {Q : Out -> Gh -> St -> Prop} {g : Gh} {st : St}
theorem kar {a b : ACode} (h : ∀ ph, wp (C.at ph) nt none a (thenO (fun st' => WM C nt b Q g st') fun o st' => Q o g st') st) : WM C nt (.seq a b) Q g st := by
 refine kaQ (kaM fun ph => jiQ ?_ (h ph));intro o st' hq;cases o <;> exact hq
theorem jnj {ph : Phase} {o : AOper} {K : St -> Prop} (ho : cls o.op ≠ 2) (h : wpOp C nid o K st) : wpOp (C.at ph) nid o K st := by
 obtain ⟨dst, op, gd⟩ := o;cases op <;> first | exact absurd rfl ho | exact h
theorem kaI {K : Gh -> St -> Prop} {o : AOper} {os : List AOper} (hg : o.guard = none) (ho : cls o.op ≠ 2) (h : wpOp C none o (fun st' => WMo C nt os K g st') st) : WMo C nt (o :: os) K g st :=
 kbg hg fun ph => jnj ho h
end
def seqR : ACode -> ACode
 | .seq _ b => b
 | c => c
theorem jjd (hC : Has C TA) {vp ve vn : AV} {p : PlanP} {es : List EmitP} {ns : List (Int × Int)} {m : Int} {h : Heap} (R : RI h vp p.prns) (h64 : p.ok64) (E : EmsI h ve es) (h65 : ∀ k, k < es.length -> (es.getD k eD).ok64) (N : SI h vn ns) (hm : In64 m) {Q : Out -> Gh -> St -> Prop}
  (hbad : ∀ t h', jaT p es ns m ≠ 0 -> t 8 = .nilslice -> t 9 = .int .i64 (jaT p es ns m) -> HSub h h' -> Q .ret .idle ⟨t, h', []⟩)
  (hgood : ∀ t h' cs, jaT p es ns m = 0 -> (∀ k, k < es.length -> EmOk p (es.getD k eD)) -> t 2 = vn -> t 7 = .ptr (h.size + 1) 0 -> HSub h h' -> h'.get (h.size + 1) = some (.cells [.int .i64 m] true 0) -> SrcV h' (t 11) es.length cs -> Srcs h' p es es.length cs (fun _ => False) -> WM C 121 (seqR (seqR (seqR (seqR (seqR (seqR (seqR B231.code))))))) Q .idle ⟨t, h', []⟩) :
  WM C 121 B231.code Q .idle ⟨argT [plA p vp, ve, vn, .int .i64 m], h, []⟩ := by
 have v1 := R.one;have w1 := E.one;have n1 := N.one;unfold In64 at hm;have kP := fun ph h1 (q : HSub h h1) => jdN (hC.at ph) (v := plA p vp) ⟨vp, rfl, R.mono q⟩ h64;have kM := fun ph (k : Nat) (hk : k < es.length) vb h1 (B : RI h1 vb (es.getD k eD).bits) (q : HSub h h1) => jfW (hC.at ph) (v := plA p vp) (w := emA (es.getD k eD) vb) (n := 0) ⟨vp, rfl, R.mono q⟩ ⟨vb, rfl, B⟩ h64 (h65 k hk) (by unfold In64; omega);have kE := fun ph (c : Nat) (e : EmitP) (vb : AV) h1 (w1 : vb.one = true) (hg : h1.get c = some (.cells [.int .i64 e.prn, .int .i64 e.dl, .int .i64 e.rt, .int .u32 e.st, .int .u32 e.ph, .int .i64 e.amp, .int .i64 e.ba, vb] true 0)) (es' : List EmitP) (v' : AV) (E' : EmsI h1 v' es') =>
  jgn (hC.at ph) (g := 253) (cs := [.ptr c 0]) (P := fun x => x.prn = e.prn) (h := h1) (fun x xb x1 => jio (hC.at ph) x1 hg) E'
 unfold plA at *;have q8 : loadB true 8 0 (some (.cells [.int .i64 p.d, .int .i64 p.o, .int .i64 p.pb, .int .i64 p.w, .int .i64 p.mn, .int .i64 p.mx, .int .i64 p.nz, vp] true 0)) = some (.agg [.int .i64 p.d, .int .i64 p.o, .int .i64 p.pb, .int .i64 p.w, .int .i64 p.mn, .int .i64 p.mx, .int .i64 p.nz, vp]) := rfl;have El := E.len;have Nl := N.len;have Elt := E.lt;have Nlt := N.lt;have s1 := (kab h (.cells [.int .i64 p.d, .int .i64 p.o, .int .i64 p.pb, .int .i64 p.w, .int .i64 p.mn, .int .i64 p.mx, .int .i64 p.nz, vp] true 0)).push (.cells [.int .i64 m] true 0);simp only [B231, zB];refine kar fun ph => ?_
 refine zs ?_;refine kar fun ph => ?_;refine zs1 q8 ?_;refine kaa (kP ph _ s1) ?_;have bad : ∀ x, jaT p es ns m = x -> x ≠ 0 -> ∀ (t : Nat -> AV) (h' : Heap), t 8 = .nilslice -> t 9 = .int .i64 x -> HSub h h' -> Q .ret .idle ⟨t, h', []⟩ := fun x hx h0 t h' a b c => hbad t h' (by rw [hx]; exact h0) a (by rw [hx]; exact b) c;clear hbad;refine zs ?_;refine kai (fun c => ?_) (fun c => ?_)
 ·refine zs ?_;exact bad _ (by unfold jaT; rw [if_pos c]) c _ _ rfl rfl s1
 have pz : p.err = 0 := Classical.not_not.1 c;have hp : p.numsOk := by
  by_cases q : p.numsOk
  ·exact q
  ·exfalso; unfold PlanP.err at pz; rw [if_neg q] at pz; cases pz
 refine zs ?_;refine kar fun ph => ?_;refine zs1 El ?_;refine kai (fun c1 => ?_) (fun c1 => ?_)
 ·refine zs ?_;exact bad _ (by unfold jaT; rw [if_neg c, if_pos (by omega)]) (by decide) _ _ rfl rfl s1
 have mb : jaT p es ns m = if emsE p es es.length ≠ 0 then emsE p es es.length else if m < 0 \/ 1048576 < m then 2 else if m < ns.length then 4 else if (∃ x ∈ ns, ¬ inS p.nz x) then 2 else 0 := by
  unfold jaT; rw [if_neg c, if_neg (by omega)]
 refine zs ?_;refine kar fun ph => ?_;refine zs ?_;refine kar fun ph => ?_;refine zs1 El ?_;generalize hH2 : (h.push (.cells [.int .i64 p.d, .int .i64 p.o, .int .i64 p.pb, .int .i64 p.w, .int .i64 p.mn, .int .i64 p.mx, .int .i64 p.nz, vp] true 0)).push (.cells [.int .i64 m] true 0) = H2 at *;have gP : H2.get h.size = some (.cells [.int .i64 p.d, .int .i64 p.o, .int .i64 p.pb, .int .i64 p.w, .int .i64 p.mn, .int .i64 p.mx, .int .i64 p.nz, vp] true 0) := by rw [<- hH2]; exact ze
 have gM : H2.get (h.size + 1) = some (.cells [.int .i64 m] true 0) := by rw [<- hH2]; exact ze
 have z2 : H2.size = h.size + 2 := by rw [<- hH2]; simp
 refine jam (fun j t h' => t 1 = ve /\ t 2 = vn /\ t 4 = .ptr h.size 0 /\ t 7 = .ptr (h.size + 1) 0 /\ t 31 = ve /\ t 32 = .int .i64 (es.length : Nat) /\ ∃ (k : Nat) (cs : List AV), t 33 = .int .i64 (k : Nat) /\ k <= es.length /\ j = es.length - k /\ emsE p es k = 0 /\ Grw H2 h' 17 (t 11) k cs /\ Srcs h' p es k cs (fun j => j ∈ (t 11).ids)) (j0 := es.length)
  ⟨rfl, rfl, rfl, rfl, rfl, rfl, 0, [], rfl, by omega, rfl, rfl, kbk _ _, rfl, fun i hi => absurd hi (Nat.not_lt_zero i)⟩ ?_
 rintro j t h1 ⟨e1, e2, e4, e7, e31, e32, k, cs, e33, hk, hj, ez, G, SS⟩;have s21 := G.sub;have sh1 := s1.trans s21;have gP1 := (s21.get h.size (by omega)).trans gP;have z1 := s21.size;refine zs2 e33 e32 ?_;refine kai (fun c2 => ?_) (fun c2 => ?_)
 ·have hk' : k < es.length := by omega
  obtain ⟨vb, ix, ld, B, _, _, _⟩ := E.at hk';have ld := ld h1 sh1;have b1 := B.one;have okE := h65 k hk';have kMk := fun ph h1 => kM ph k hk' vb h1;have kEk := fun ph c h1 => kE ph c (es.getD k eD) vb h1 b1;unfold emA at *;generalize he : es.getD k eD = e at *;refine zs7 e4 e31 e33 ix ld gP1 q8 ?_;have s' := sh1.push (.cells [.int .i64 e.prn, .int .i64 e.dl, .int .i64 e.rt, .int .u32 e.st, .int .u32 e.ph, .int .i64 e.amp, .int .i64 e.ba, vb] true 0);refine kad (kMk ph _ (B.mono s') s') ?_;rintro r h2 ⟨s2, x, rfl, g0, g1⟩;have s12 := (kab h1 (.cells [.int .i64 e.prn, .int .i64 e.dl, .int .i64 e.rt, .int .u32 e.st, .int .u32 e.ph, .int .i64 e.amp, .int .i64 e.ba, vb] true 0)).trans s2
  have z12 := s2.size;simp only [Heap.size_push] at z12;have gE2 : h2.get h1.size = some (.cells [.int .i64 e.prn, .int .i64 e.dl, .int .i64 e.rt, .int .u32 e.st, .int .u32 e.ph, .int .i64 e.amp, .int .i64 e.ba, vb] true 0) := (s2.get _ (by simp)).trans (by exact ze);have sH2 := sh1.trans s12;have em0 : madeErr p e 0 = emitErr p e := by unfold madeErr; split <;> simp_all
  by_cases cm : madeErr p e 0 = 0
  ·obtain ⟨vp', vb', vc, q1, q2, rfl, R', B', W, fr⟩ := g1 cm;have x1 := R'.one;have x2 := B'.one;have x3 := W.one;have sb := fun (H : Heap) (i : Nat) => jbR (H := H) (i := i) (n := 17) (x := .int .i64 e.prn) (y := .int .i64 e.dl) (xs := [.int .i64 e.rt, .int .u32 e.st, .int .u32 e.ph, .int .i64 e.amp, .int .i64 e.ba, vb', .int .i64 p.d, .int .i64 p.o, .int .i64 p.pb, .int .i64 p.w, .int .i64 p.mn, .int .i64 p.mx, .int .i64 p.nz, vp', vc]) (vs := [.int .i64 0, .int .i64 0, .int .i64 0, .int .u32 0, .int .u32 0, .int .i64 0, .int .i64 0, .nilslice, .int .i64 0, .int .i64 0, .int .i64 0, .int .i64 0, .int .i64 0, .int .i64 0, .int .i64 0, .nilslice, .nilslice]) rfl rfl (by simp [jdr, x1, x2, x3])
   have cb := fun wr u => jlQ (n := 17) (xs := [.int .i64 e.prn, .int .i64 e.dl, .int .i64 e.rt, .int .u32 e.st, .int .u32 e.ph, .int .i64 e.amp, .int .i64 e.ba, vb', .int .i64 p.d, .int .i64 p.o, .int .i64 p.pb, .int .i64 p.w, .int .i64 p.mn, .int .i64 p.mx, .int .i64 p.nz, vp', vc]) (wr := wr) (u := u) rfl;obtain ⟨v2, hv2, E2⟩ := E.takeK (k := k) (kk := .i64) hk;unfold srcA;refine zs5 @cm sb e1 e4 hv2 ?_;have gN : ∀ i, i < k -> (es.take k).getD i eD = es.getD i eD := fun i hi => by simp [List.getD_eq_getElem?_getD, List.getElem?_take, hi]
   have lN : (es.take k).length = k := by rw [List.length_take]; omega
   have kE2 := fun (b : ABlk) => kEk ph h1.size (h2.push b) (by exact ze1 gE2) (es.take k) v2 (E2.mono (sH2.push b));by_cases c5 : ∃ i, i < (es.take k).length /\ ((es.take k).getD i eD).prn = e.prn
   ·refine kaf (kE2 _) (by rw [decide_eq_true c5]) ?_;obtain ⟨i, hi, hie⟩ := c5;rw [lN] at hi;rw [gN i hi] at hie;have et := jjO hk' ez (by rw [he, <- em0]; exact cm) hi (by rw [he]; exact hie);refine zs ?_;exact bad 8 (by rw [mb, if_pos (by rw [et]; decide), et]) (by decide) _ _ rfl rfl (zh sH2)
   ·refine kaf (kE2 _) (by rw [decide_eq_false c5]) ?_;have en := jim ez (by rw [he, <- em0]; exact cm) (fun i hi q => c5 ⟨i, by rw [lN]; exact hi, by rw [gN i hi, q, he]⟩);have an := fun (H : Heap) (hs : HSub h1 H) (bts : Nat) (hb : (k + 1) * bts <= 1099511627776) => kba (m := 1) (bytes := bts) (news := [.int .i64 e.prn, .int .i64 e.dl, .int .i64 e.rt, .int .u32 e.st, .int .u32 e.ph, .int .i64 e.amp, .int .i64 e.ba, vb', .int .i64 p.d, .int .i64 p.o, .int .i64 p.pb, .int .i64 p.w, .int .i64 p.mn, .int .i64 p.mx, .int .i64 p.nz, vp', vc]) G hs (by decide) hb (by simp [jdr, x1, x2, x3]);refine zs7 @jdC cb an e1 e31 e32 e33 ?_
    have gi := jni G;have hsN := (s12.push (.cells [.int .i64 e.prn, .int .i64 e.dl, .int .i64 e.rt, .int .u32 e.st, .int .u32 e.ph, .int .i64 e.amp, .int .i64 e.ba, vb', .int .i64 p.d, .int .i64 p.o, .int .i64 p.pb, .int .i64 p.w, .int .i64 p.mn, .int .i64 p.mx, .int .i64 p.nz, vp', vc] true 0)).push (.cells [.int .i64 e.prn, .int .i64 e.dl, .int .i64 e.rt, .int .u32 e.st, .int .u32 e.ph, .int .i64 e.amp, .int .i64 e.ba, vb', .int .i64 p.d, .int .i64 p.o, .int .i64 p.pb, .int .i64 p.w, .int .i64 p.mn, .int .i64 p.mx, .int .i64 p.nz, vp', vc] true 0);have GN := ka2 (m := 1) (news := [.int .i64 e.prn, .int .i64 e.dl, .int .i64 e.rt, .int .u32 e.st, .int .u32 e.ph, .int .i64 e.amp, .int .i64 e.ba, vb', .int .i64 p.d, .int .i64 p.o, .int .i64 p.pb, .int .i64 p.w, .int .i64 p.mn, .int .i64 p.mx, .int .i64 p.nz, vp', vc]) G hsN rfl (by omega)
    have hN2 := (kab h2 (.cells [.int .i64 e.prn, .int .i64 e.dl, .int .i64 e.rt, .int .u32 e.st, .int .u32 e.ph, .int .i64 e.amp, .int .i64 e.ba, vb', .int .i64 p.d, .int .i64 p.o, .int .i64 p.pb, .int .i64 p.w, .int .i64 p.mn, .int .i64 p.mx, .int .i64 p.nz, vp', vc] true 0)).push (.cells [.int .i64 e.prn, .int .i64 e.dl, .int .i64 e.rt, .int .u32 e.st, .int .u32 e.ph, .int .i64 e.amp, .int .i64 e.ba, vb', .int .i64 p.d, .int .i64 p.o, .int .i64 p.pb, .int .i64 p.w, .int .i64 p.mn, .int .i64 p.mx, .int .i64 p.nz, vp', vc] true 0);have hvb : vb' = vb := by injection q2 with q2; simp only [List.cons.injEq, and_true, true_and] at q2; exact q2.symm
    refine ⟨_, ⟨e2, e4, e7, k + 1, _, by simp, by omega, rfl, en, GN, ?_⟩, by omega⟩;have hns : ((h2.push (.cells [.int .i64 e.prn, .int .i64 e.dl, .int .i64 e.rt, .int .u32 e.st, .int .u32 e.ph, .int .i64 e.amp, .int .i64 e.ba, vb', .int .i64 p.d, .int .i64 p.o, .int .i64 p.pb, .int .i64 p.w, .int .i64 p.mn, .int .i64 p.mx, .int .i64 p.nz, vp', vc] true 0)).push (.cells [.int .i64 e.prn, .int .i64 e.dl, .int .i64 e.rt, .int .u32 e.st, .int .u32 e.ph, .int .i64 e.amp, .int .i64 e.ba, vb', .int .i64 p.d, .int .i64 p.o, .int .i64 p.pb, .int .i64 p.w, .int .i64 p.mn, .int .i64 p.mx, .int .i64 p.nz, vp', vc] true 0)).size = h2.size + 2 := by simp
    generalize (h2.push (.cells [.int .i64 e.prn, .int .i64 e.dl, .int .i64 e.rt, .int .u32 e.st, .int .u32 e.ph, .int .i64 e.amp, .int .i64 e.ba, vb', .int .i64 p.d, .int .i64 p.o, .int .i64 p.pb, .int .i64 p.w, .int .i64 p.mn, .int .i64 p.mx, .int .i64 p.nz, vp', vc] true 0)).push (.cells [.int .i64 e.prn, .int .i64 e.dl, .int .i64 e.rt, .int .u32 e.st, .int .u32 e.ph, .int .i64 e.amp, .int .i64 e.ba, vb', .int .i64 p.d, .int .i64 p.o, .int .i64 p.pb, .int .i64 p.w, .int .i64 p.mn, .int .i64 p.mx, .int .i64 p.nz, vp', vc] true 0) = HN at *;have SN := SS.turn (h' := snocH HN none (t 11) 17 (cs ++ [.int .i64 e.prn, .int .i64 e.dl, .int .i64 e.rt, .int .u32 e.st, .int .u32 e.ph, .int .i64 e.amp, .int .i64 e.ba, vb', .int .i64 p.d, .int .i64 p.o, .int .i64 p.pb, .int .i64 p.w, .int .i64 p.mn, .int .i64 p.mx, .int .i64 p.nz, vp', vc])) (bad' := fun j => j ∈ (AV.slice HN.size 0 (k + 1) (.unk 0)).ids) (fun i hb hn => by
     have hlt : i < h1.size := Nat.lt_of_not_le fun q => hn (h1.wf i q);have := hsN.size;rw [jjS hb (by omega)]; exact hsN.get i hlt) (fun i hi => .inr (h1.wf i (by simp only [AV.ids, List.mem_singleton] at hi; have := hsN.size; omega)))
    have hsq := GN.sub;have blt := B.lt_ids;have wlt := W.lt_ids;have hz := s1.size;have hn2 := hN2.size;have fin := kbc SN (vp := vp') (vb := vb') (vc := vc) x1 (by rw [he, hvb]; rw [hvb] at hsq; exact (B.mono (s1.trans hsq)).rv) (by
     rw [he];refine RV.off W.rv fun j hj => ?_;have q1 := fr j hj;have q3 := wlt j hj;simp only [Heap.size_push] at q1;rw [jjS (fun q => by have := (gi j q).2; omega) (by omega)];exact hN2.get j q3) (fun j hj x => by
      rw [hvb] at hj;have := blt j hj;simp only [AV.ids, List.mem_singleton] at x;omega) (fun j hj x => by
      have := wlt j hj;simp only [AV.ids, List.mem_singleton] at x;omega)
    rw [he] at fin;rw [hns] at fin;exact fin
  ·have xz := g0 cm;subst xz;have eb : emsE p es es.length = emitErr p (es.getD k eD) := jjN hk' ez (by rw [he, <- em0]; exact cm);rw [he, <- em0] at eb;unfold zsrc;refine zs1 @cm ?_;exact bad _ (by rw [mb, if_pos (by rw [eb]; exact cm), eb]) cm _ _ rfl rfl (zh (sh1.trans s12))
 ·obtain rfl : k = es.length := by omega
  have gM1 := (s21.get (h.size + 1) (by omega)).trans gM;have eok := fun k hk => jhn (ji9 ez k hk);have mb2 : jaT p es ns m = if m < 0 \/ 1048576 < m then 2 else if m < ns.length then 4 else if (∃ x ∈ ns, ¬ inS p.nz x) then 2 else 0 := by
   rw [mb, if_neg (by rw [ez]; decide)]
  have nz := hp.2.2.2.2.2.2;have kG := fun ph => jgm (hC.at ph) (g := 254) (cs := [.ptr h.size 0]) (P := fun q => inS p.nz q) (h := h1) (fun q => jip (hC.at ph) (p := p) (vp := vp) ⟨by omega, by omega⟩ v1 gP1) (N.mono sh1);refine zs ?_;refine kar fun ph => ?_;refine zs1 e4 ?_;refine kar fun ph => ?_;refine zs2 e7 gM1 ?_;refine kai (fun c3 => ?_) (fun c3 => ?_)
  ·refine zs ?_;exact bad 2 (by rw [mb2, if_pos (.inl c3)]) (by decide) _ _ rfl rfl sh1
  ·refine zs2 e7 gM1 ?_;refine kai (fun c4 => ?_) (fun c4 => ?_)
   ·refine zs ?_;exact bad 2 (by rw [mb2, if_pos (.inr c4)]) (by decide) _ _ rfl rfl sh1
   ·refine zs4 e2 e7 Nl gM1 ?_;refine kai (fun c5 => ?_) (fun c5 => ?_)
    ·refine zs ?_;exact bad 4 (by rw [mb2, if_neg (by omega), if_pos (by omega)]) (by decide) _ _ rfl rfl sh1
    ·by_cases c6 : ∀ x ∈ ns, inS p.nz x
     ·refine zs2 e2 e7 ?_;refine kaf (kG ph) (by rw [decide_eq_true c6]) (zs ?_);refine hgood _ _ cs (by rw [mb2, if_neg (by omega), if_neg (by omega), if_neg (fun ⟨x, hx, q⟩ => q (c6 x hx))]) eok e2 e7 sh1 gM1 ?_ (SS.turn (fun _ _ _ => rfl) (fun _ x => x.elim));show SrcV h1 (t 11) es.length cs;obtain ⟨_, gl, _, ⟨g1, g2⟩ | ⟨i, ex, _, g1, g2⟩⟩ := G
      ·exact ⟨gl, .inl ⟨g1, g2⟩⟩
      ·exact ⟨gl, .inr ⟨i, ex, true, g1, g2⟩⟩
     ·refine zs2 e2 e7 ?_;refine kaf (kG ph) (by rw [decide_eq_false c6]) (zs ?_);exact bad 2 (by rw [mb2, if_neg (by omega), if_neg (by omega), if_pos (by
       rcases Classical.em (∃ x ∈ ns, ¬ inS p.nz x) with q | q
       ·exact q
       ·exact absurd (fun x hx => Classical.not_not.1 fun y => q ⟨x, hx, y⟩) c6)]) (by decide) _ _ rfl rfl sh1
theorem jje {p : PlanP} {M ic b dst : Nat} {rem : List EmitP} {Hs H h Hc : Heap} {T : Nat -> AV} {K : Gh -> St -> Prop} {vs : List AV} (hic : h.size <= ic) (h1 : HSub h Hc) (h2 : HSub Hc Hs) (hb : Hs.size <= b) (hbz : b < H.size) (hg : H.get b = some (.cells vs true 0))
  (hK : ∀ g' H' A e B, rem = A ++ e :: B -> H'.get H.size = some (.cells (smps (wv p e M M)) false 0) -> H'.get b = some (.cells vs true 0) -> H.size < H'.size -> (A ++ B = [] -> g' = .idle /\ HSub h H') -> (A ++ B ≠ [] -> g' = .busy ic ((A ++ B).map fun e => waveP p e M) Hs /\ HSub H H') ->
   K g' ⟨upd T dst (.slice H.size 0 M (.known M)), H', []⟩) : jjR (.busy ic (rem.map fun e => waveP p e M) Hs) (.chan ic) (some dst) K ⟨T, H, []⟩ := by
 refine ⟨rfl, fun A q B hAB => ?_⟩;obtain ⟨A1, e, B1, hr, rfl, rfl, rfl⟩ := jis hAB;have z1 := h1.size;have z2 := h2.size;constructor
 ·intro hne;refine hK (.busy ic (A1.map (fun e => waveP p e M) ++ B1.map fun e => waveP p e M) Hs) _ A1 e B1 hr ?_ ?_ ?_ ?_ ?_
  ·exact get_push_eq rfl
  ·show (H.push _).get b = _;rw [kah, if_neg (by omega)]; exact hg
  ·show H.size < (H.push _).size;simp
  ·intro h0;exfalso;obtain ⟨a, b⟩ := List.append_eq_nil_iff.1 h0;subst a; subst b; exact hne rfl
  ·intro _;exact ⟨by rw [List.map_append], kab H _⟩
 ·intro h0;have hAB0 : A1 ++ B1 = [] := by
   obtain ⟨a, b⟩ := List.append_eq_nil_iff.1 h0;rw [List.map_eq_nil_iff.1 a, List.map_eq_nil_iff.1 b]; rfl
  have gT : ∀ i, i < Hs.size -> i ≠ ic -> (Hs.thaw ic H).get i = Hs.get i := fun i hi hne => by
   show (if i < H.size then (if i < Hs.size then (if i = ic then some .dead else Hs.get i) else _) else none) = _;rw [if_pos (by omega), if_pos hi, if_neg hne]
  refine hK .idle _ A1 e B1 hr ?_ ?_ ?_ ?_ ?_
  ·show ((Hs.thaw ic H).push _).get H.size = _;rw [kah, if_pos (by simp)]
  ·show ((Hs.thaw ic H).push _).get b = _;rw [kah, if_neg (by simp; omega)];show (if b < H.size then (if b < Hs.size then _ else (H.get b).map fun x => if x.wr then x else .dead) else none) = _;rw [if_pos hbz, if_neg (by omega), hg]; rfl
  ·show H.size < ((Hs.thaw ic H).push _).size;simp
  ·intro _;refine ⟨rfl, ⟨by show h.size <= ((Hs.thaw ic H).push _).size; simp; omega, fun i hi => ?_⟩⟩;show ((Hs.thaw ic H).push _).get i = _;rw [kah, if_neg (by simp; omega), gT i (by omega) (by omega), h2.get i (by omega), h1.get i hi]
  ·intro hne; exact absurd hAB0 hne
theorem jfg {p : PlanP} {D X : List EmitP} {ns : List (Int × Int)} {n : Nat} : ∀ k, k <= D.length -> scnV p (D ++ X) ns k n = scnV p D ns k n
 | 0, _ => rfl
 | k + 1, hk => by
  have e : (D ++ X).getD k eD = D.getD k eD := by
   rw [List.getD_eq_getElem?_getD, List.getElem?_append_left (by omega), <- List.getD_eq_getElem?_getD]
  show addP (scnV p (D ++ X) ns k n) (atV p ((D ++ X).getD k eD) (n : Nat)) = addP (scnV p D ns k n) (atV p (D.getD k eD) (n : Nat));rw [jfg k (by omega), e]
theorem jit {D : List EmitP} {e : EmitP} {ns : List (Int × Int)} : scnV p (D ++ [e]) ns (D.length + 1) n = addP (scnV p D ns D.length n) (atV p e (n : Nat)) := by
 show addP (scnV p (D ++ [e]) ns D.length n) (atV p ((D ++ [e]).getD D.length eD) (n : Nat)) = _;rw [jfg _ (Nat.le_refl _)];have : (D ++ [e]).getD D.length eD = e := by simp [List.getD_eq_getElem?_getD]
 rw [this]
theorem jiu {ns : List (Int × Int)} (l : List EmitP) : scnV p l ns l.length n = l.foldl (fun a e => addP a (atV p e (n : Nat))) (ns.getD n (0, 0)) := by
 have key : ∀ l : List EmitP, scnV p l.reverse ns l.reverse.length n = l.reverse.foldl (fun a e => addP a (atV p e (n : Nat))) (ns.getD n (0, 0)) := by
  intro l
  induction l with
  | nil => rfl
  | cons x l ih =>
   rw [List.reverse_cons, List.length_append, List.foldl_append];show scnV p (l.reverse ++ [x]) ns (l.reverse.length + 1) n = _;rw [jit, ih];rfl
 have := key l.reverse
 rwa [List.reverse_reverse] at this
theorem jnk (a b c : Int × Int) : addP (addP a b) c = addP (addP a c) b := by
 unfold addP;refine Prod.ext ?_ ?_ <;> dsimp only <;> omega
theorem jlX {ns : List (Int × Int)} {D es : List EmitP} (h : D.Perm es) : scnV p D ns D.length n = scnV p es ns es.length n := by
 rw [jiu, jiu];generalize ns.getD n (0, 0) = z
 induction h generalizing z with
 | nil => rfl
 | cons x _ ih => exact ih _
 | swap x y l =>
  show l.foldl _ (addP (addP z (atV p y (n : Nat))) (atV p x (n : Nat))) = l.foldl _ (addP (addP z (atV p x (n : Nat))) (atV p y (n : Nat)));rw [jnk]
 | trans _ _ ih1 ih2 => exact (ih1 z).trans (ih2 z)
theorem jlY {ns : List (Int × Int)} {M : Nat} {D es : List EmitP} (h : D.Perm es) : scnL p D ns D.length M = scnL p es ns es.length M :=
 List.map_congr_left fun n _ => jlX h
theorem jmD {ns : List (Int × Int)} {M : Nat} {D X : List EmitP} : scnL p (D ++ X) ns D.length M = scnL p D ns D.length M :=
 List.map_congr_left fun n _ => jfg _ (Nat.le_refl _)
theorem jf7 {a b : AV} : ∀ (l : List AV) (i : Nat), i + 2 <= l.length -> (l.set i a).set (i + 1) b = splice l i [a, b]
 | [], i, h => by simp at h
 | x :: l, 0, h => by
  cases l with
  | nil => simp at h
  | cons y l => simp [splice]
 | x :: l, i + 1, h => by
  have := jf7 (a := a) (b := b) l i (by simpa using h);simp only [List.set_cons_succ, this, splice, List.take_succ_cons, List.length_cons, List.cons_append];rw [show i + 1 + ([] : List AV).length.succ.succ = (i + ([] : List AV).length.succ.succ) + 1 by omega, List.drop_succ_cons]
theorem SrcV.freeze {k : Nat} (H : SrcV h v k cs) : SrcV h.freeze v k cs := by
 obtain ⟨a, ⟨rfl, h1⟩ | ⟨i, ex, wr, rfl, hg⟩⟩ := H
 ·exact ⟨a, .inl ⟨rfl, h1⟩⟩
 ·exact ⟨a, .inr ⟨i, ex, false, rfl, by rw [jbS, hg]; rfl⟩⟩
theorem SrcV.mono {k : Nat} (H : SrcV h v k cs) (hs : HSub h h') : SrcV h' v k cs := by
 obtain ⟨a, ⟨rfl, h1⟩ | ⟨i, ex, wr, rfl, hg⟩⟩ := H
 ·exact ⟨a, .inl ⟨rfl, h1⟩⟩
 ·exact ⟨a, .inr ⟨i, ex, wr, rfl, (hs.get i (kac hg)).trans hg⟩⟩
theorem Srcs.mono {es : List EmitP} {k : Nat} (H : Srcs h p es k cs (fun _ => False)) (hs : HSub h h') : Srcs h' p es k cs (fun _ => False) :=
 H.turn (fun i _ hn => hs.get i (Nat.lt_of_not_le fun q => hn (h.wf i q))) (fun _ x => x.elim)
theorem SrcV.len {k : Nat} (H : SrcV h v k cs) : lenA v = some (.int .i64 (k : Nat)) := by
 obtain ⟨a, ⟨rfl, rfl⟩ | ⟨i, ex, wr, rfl, hg⟩⟩ := H <;> rfl
theorem SrcV.at {k : Nat} (H : SrcV h v k cs) (hi : i < k) : idxA 17 v (.int .i64 (i : Nat)) = some (elA 17 v i) /\ Ae.loadA h true 17 (elA 17 v i) = some (.agg (cut cs (i * 17) 17)) := by
 obtain ⟨a, ⟨rfl, rfl⟩ | ⟨j, ex, wr, rfl, hg⟩⟩ := H
 ·omega
 ·have h1 : i * 17 + 17 <= k * 17 := by omega
  refine ⟨by simp only [idxA]; rw [if_pos ⟨by omega, by omega⟩]; simp [elA], ?_⟩;simp only [elA, Ae.loadA, hg, partA, if_true];rw [if_pos (by rw [List.length_append]; omega)];congr 2;unfold cut;rw [Nat.zero_add, List.drop_append_of_le_length (by omega), List.take_append_of_le_length (by rw [List.length_drop]; omega)]
theorem jgo : jao h.freeze sz v = jao h sz v := by
 cases v with
 | slice i o n c =>
  simp only [jao, jbS];cases hg : h.get i with
  | none => rfl
  | some b => cases b <;> rfl
 | _ => rfl
theorem je4 {x : Nat × List AV} (H : jao h sz v = some x) (hs : HSub h h') : jao h' sz v = some x := by
 rw [<- H];cases v with
 | slice i o n c =>
  simp only [jao] at H |-;cases hg : h.get i with
  | none => rw [hg] at H; cases H
  | some b => rw [hs.get i (kac hg), hg]
 | _ => rfl
theorem jb6 {wr : Bool} (hg : h.get i = some (.cells vs wr u)) : h.freeze.get i = some (.cells vs false u) := by rw [jbS, hg]; rfl
theorem jkL (hC : Has C TA) {vn : AV} {p : PlanP} {es : List EmitP} {ns : List (Int × Int)} {M : Nat} {h h1 : Heap} {t : Nat -> AV} {cs : List AV} {Q : Out -> Gh -> St -> Prop} (h65 : ∀ k, k < es.length -> (es.getD k eD).ok64) (hn8 : es.length <= 8) (hM : M <= 1048576) (eok : ∀ k, k < es.length -> EmOk p (es.getD k eD)) (hnl : ns.length <= M) (hp : p.numsOk) (nin : ∀ x ∈ ns, inS p.nz x)
  (hfin : ∀ (t : Nat -> AV) (h' : Heap) (b : Nat), t 8 = .slice b 0 M (.known M) -> t 9 = .int .i64 0 -> HSub h h' -> h.size <= b -> h'.get b = some (.cells (smps (scnL p es ns es.length M)) true 0) -> Q .ret .idle ⟨t, h', []⟩)
  (e2 : t 2 = vn) (e7 : t 7 = .ptr (h.size + 1) 0) (hs : HSub h h1) (gM : h1.get (h.size + 1) = some (.cells [.int .i64 (M : Nat)] true 0)) (hc : jao h1 2 vn = some (ns.length, smps ns)) (V : SrcV h1 (t 11) es.length cs) (S : Srcs h1 p es es.length cs (fun _ => False)) :
  WM C 121 (seqR (seqR (seqR (seqR (seqR (seqR (seqR B231.code))))))) Q .idle ⟨t, h1, []⟩ := by
 simp only [B231, seqR, zB];refine kaQ (kaR ?_);refine kaI rfl (by decide) ?_;show WMo C 121 _ _ .idle ⟨upd t 72 (.chan h1.size), h1.push .chan, []⟩;refine kaI rfl (by decide) ?_;show WMo C 121 _ _ .idle ⟨upd (upd t 72 (.chan h1.size)) 17 (.ptr (h1.size + 1) 0), (h1.push .chan).push (.cells [.nilchan] true 0), []⟩;refine kaI rfl (by decide) ?_;have st1 : jdd ((h1.push .chan).push (.cells [.nilchan] true 0)) 1 (.ptr (h1.size + 1) 0) (.chan h1.size) = some ((h1.push .chan).push (.cells [.chan h1.size] true 0)) := by
  have g : ((h1.push .chan).push (.cells [.nilchan] true 0)).get (h1.size + 1) = some (.cells [.nilchan] true 0) := get_push_eq rfl;simp only [jdd, g];rw [if_pos ⟨rfl, by simp, rfl⟩];simp only [AV.cells, splice, List.set_cons_zero];rw [push_put (h := h1.push .chan) (i := h1.size + 1) rfl]
 show (match (jdd ((h1.push .chan).push (.cells [.nilchan] true 0)) 1 (.ptr (h1.size + 1) 0) (.chan h1.size)).map fun h' => (AV.undef, h') with | some (v, h') => WMo C 121 _ _ .idle (St.put ⟨upd (upd t 72 (.chan h1.size)) 17 (.ptr (h1.size + 1) 0), h', []⟩ none v) | none => False);rw [st1];refine ka0 ?_;show WM C 121 _ Q .idle ⟨upd (upd t 72 (.chan h1.size)) 17 (.ptr (h1.size + 1) 0), (h1.push .chan).push (.cells [.chan h1.size] true 0), []⟩;have sHc := (kab h1 .chan).push (.cells [.chan h1.size] true 0);have gic : ((h1.push .chan).push (.cells [.chan h1.size] true 0)).get h1.size = some .chan := by rw [kah, if_neg (by simp), kah, if_pos rfl]
 have gcw : ((h1.push .chan).push (.cells [.chan h1.size] true 0)).get (h1.size + 1) = some (.cells [.chan h1.size] true 0) := get_push_eq rfl;have zc : ((h1.push .chan).push (.cells [.chan h1.size] true 0)).size = h1.size + 2 := by simp
 have Vc := V.mono sHc;have Sc := S.mono sHc;have gMc := (sHc.get _ (kac gM)).trans gM;have cc : jao ((h1.push .chan).push (.cells [.chan h1.size] true 0)) 2 vn = some (ns.length, smps ns) := by
  rw [<- hc];cases vn with
  | slice i o n c =>
   simp only [jao] at hc |-;cases hg : h1.get i with
   | none => rw [hg] at hc; cases hc
   | some b => rw [sHc.get i (kac hg), hg]
  | _ => rfl
 generalize hHc : (h1.push .chan).push (.cells [.chan h1.size] true 0) = Hc at *;have Vl := V.len;generalize hv0 : t 11 = v0 at *;refine kaQ ?_;refine kar fun ph => ?_;refine zs2 hv0 Vl ?_;refine kaP ?_;refine ka9 (fun j g st => ∃ k : Nat, k <= es.length /\ j = es.length - k /\ st.m = [] /\ st.t 2 = vn /\ st.t 7 = .ptr (h.size + 1) 0 /\ st.t 11 = v0 /\ st.t 17 = .ptr (h1.size + 1) 0 /\ st.t 73 = v0 /\ st.t 74 = .int .i64 (es.length : Nat) /\ st.t 75 = .int .i64 (k : Nat) /\
  SrcV st.h v0 es.length cs /\ Srcs st.h p es es.length cs (fun _ => False) /\ (∃ wr u, st.h.get (h.size + 1) = some (.cells [.int .i64 (M : Nat)] wr u)) /\ (∃ wr u, st.h.get (h1.size + 1) = some (.cells [.chan h1.size] wr u)) /\ jao st.h 2 vn = some (ns.length, smps ns) /\ Hc.size <= st.h.size /\ st.h.ok h1.size /\
  (k = 0 -> g = .idle /\ st.h = Hc) /\ (0 < k -> ∃ Hs, g = .busy h1.size ((List.range k).map fun i => waveP p (es.getD i eD) M) Hs /\ HSub Hc Hs /\ Hs.size <= st.h.size)) (j0 := es.length)
  ⟨0, by omega, rfl, rfl, e2, e7, hv0, rfl, rfl, rfl, rfl, Vc, Sc, ⟨_, _, gMc⟩, ⟨_, _, gcw⟩, cc, Nat.le_refl _, by simp [Heap.ok, gic], fun _ => ⟨rfl, rfl⟩, fun q => absurd q (Nat.lt_irrefl 0)⟩ ?_
 ·rintro j g ⟨u, H, mk⟩ ⟨k, hk, hj, hm, f2, f7, f11, f17, f73, f74, f75, VH, SH, ⟨wm, um, gm⟩, ⟨wc, uc, gc⟩, cH, zH, okH, k0, k1⟩;dsimp only at hm f2 f7 f11 f17 f73 f74 f75 VH SH gm gc cH zH okH k0 k1;subst hm;refine kar fun ph => ?_;refine zs2 f74 f75 ?_;refine kar fun ph => ?_;refine zs ?_;refine kai (fun c2 => ?_) (fun c2 => ?_)
  ·have hk' : k < es.length := by omega
   obtain ⟨ix, ld⟩ := VH.at hk';obtain ⟨vp', vb', vc', x1, hcut, B, W, _⟩ := SH.2 k hk';rw [hcut] at ld;have x2 := B.one;have x3 := W.one;generalize he : es.getD k eD = e at *;have sb := fun (H : Heap) (i : Nat) => jbR (H := H) (i := i) (n := 17) (x := .int .i64 e.prn) (y := .int .i64 e.dl) (xs := [.int .i64 e.rt, .int .u32 e.st, .int .u32 e.ph, .int .i64 e.amp, .int .i64 e.ba, vb', .int .i64 p.d, .int .i64 p.o, .int .i64 p.pb, .int .i64 p.w, .int .i64 p.mn, .int .i64 p.mx, .int .i64 p.nz, vp', vc']) (vs := [.int .i64 0, .int .i64 0, .int .i64 0, .int .u32 0, .int .u32 0, .int .i64 0, .int .i64 0, .nilslice, .int .i64 0, .int .i64 0, .int .i64 0, .int .i64 0, .int .i64 0, .int .i64 0, .int .i64 0, .nilslice, .nilslice]) rfl rfl (by simp [jdr, x1, x2, x3])
   have ecs : (srcA p e vp' vb' vc').cells = [.int .i64 e.prn, .int .i64 e.dl, .int .i64 e.rt, .int .u32 e.st, .int .u32 e.ph, .int .i64 e.amp, .int .i64 e.ba, vb', .int .i64 p.d, .int .i64 p.o, .int .i64 p.pb, .int .i64 p.w, .int .i64 p.mn, .int .i64 p.mx, .int .i64 p.nz, vp', vc'] := rfl;rw [ecs] at ld;refine zs ?_;refine kaQ (kaP ?_);refine kar fun ph => ?_;refine zs5 f73 f75 ix ld sb ?_;refine kaR (kaI rfl (by decide) ?_);refine zs2 f17 f7 ?_;refine kbp ?_;have hs19 := kab H (.cells [.int .i64 e.prn, .int .i64 e.dl, .int .i64 e.rt, .int .u32 e.st, .int .u32 e.ph, .int .i64 e.amp, .int .i64 e.ba, vb', .int .i64 p.d, .int .i64 p.o, .int .i64 p.pb, .int .i64 p.w, .int .i64 p.mn, .int .i64 p.mx, .int .i64 p.nz, vp', vc'] true 0)
   have g19 : (H.push (.cells [.int .i64 e.prn, .int .i64 e.dl, .int .i64 e.rt, .int .u32 e.st, .int .u32 e.ph, .int .i64 e.amp, .int .i64 e.ba, vb', .int .i64 p.d, .int .i64 p.o, .int .i64 p.pb, .int .i64 p.w, .int .i64 p.mn, .int .i64 p.mx, .int .i64 p.nz, vp', vc'] true 0)).get H.size = some (.cells (srcA p e vp' vb' vc').cells true 0) := get_push_eq rfl;have z19 : (H.push (.cells [.int .i64 e.prn, .int .i64 e.dl, .int .i64 e.rt, .int .u32 e.st, .int .u32 e.ph, .int .i64 e.amp, .int .i64 e.ba, vb', .int .i64 p.d, .int .i64 p.o, .int .i64 p.pb, .int .i64 p.w, .int .i64 p.mn, .int .i64 p.mx, .int .i64 p.nz, vp', vc'] true 0)).size = H.size + 1 := by simp
   generalize hH9 : H.push (.cells [.int .i64 e.prn, .int .i64 e.dl, .int .i64 e.rt, .int .u32 e.st, .int .u32 e.ph, .int .i64 e.amp, .int .i64 e.ba, vb', .int .i64 p.d, .int .i64 p.o, .int .i64 p.pb, .int .i64 p.w, .int .i64 p.mn, .int .i64 p.mx, .int .i64 p.nz, vp', vc'] true 0) = H9 at *;have gm9 := (hs19.get _ (kac gm)).trans gm;have gc9 := (hs19.get _ (kac gc)).trans gc;have ok9 : H9.ok h1.size := by
    have hlt := kav okH;simp only [Heap.ok] at okH |-;rw [hs19.get _ hlt]; exact okH
   show wpGo C g (.func 256 [] [.ptr (h1.size + 1) 0, .ptr H.size 0, .ptr (h.size + 1) 0]) [] none _ _;refine ⟨h1.size, waveP p e M, ?_, waveP_ok p e M, ?_, ?_⟩
   ·rcases Nat.eq_zero_or_pos k with q | q
    ·obtain ⟨rfl, hHH⟩ := k0 q;have gi : H9.get h1.size = Hc.get h1.size := by rw [hs19.get h1.size (kav okH), hHH]
     exact gi.trans gic
    ·obtain ⟨Hs, rfl, _⟩ := k1 q;rfl
   ·exact jnh hC (by rw [<- he]; exact eok k hk') (by rw [<- he]; exact h65 k hk') (B.mono hs19).freeze (W.mono hs19).freeze x1 hM (jb6 gc9) (jb6 g19) (jb6 gm9) ((jf3 _ _).2 ok9)
   ·refine ka0 ?_;refine kaM fun ph => ?_;show wp _ _ _ _ _ ⟨_, H9.freeze, []⟩;refine zs1 f75 ?_;have zz : (H9.freeze).size = H9.size := rfl;refine ⟨_, by omega, k + 1, by omega, rfl, f2, f7, f11, f17, f73, f74, by simp, (VH.mono hs19).freeze, (SH.mono hs19).freeze, ⟨_, _, jb6 gm9⟩, ⟨_, _, jb6 gc9⟩, by rw [jgo]; exact je4 cH hs19, by omega, (jf3 _ _).2 ok9, fun q => absurd q (by omega), fun _ => ?_⟩;have he' : es[k]?.getD eD = e := by rw [<- List.getD_eq_getElem?_getD]; exact he
    rcases Nat.eq_zero_or_pos k with q | q
    ·obtain ⟨rfl, hHH⟩ := k0 q;subst q;exact ⟨H9, by simp [jf4, he'], by rw [<- hHH]; exact hs19, Nat.le_refl _⟩
    ·obtain ⟨Hs, rfl, hHs, hHz⟩ := k1 q;exact ⟨Hs, by simp [jf4, List.range_succ, he'], hHs, by omega⟩
  ·refine zs ?_;rw [if_pos trivial];obtain rfl : k = es.length := by omega
   have zr9 := jcA (p := (0, 0)) (n := M);simp only at zr9;have cpy : ∀ (b : Nat) (H0 : Heap), b = H.size -> H0 = H.push (.cells (smps (List.replicate M (0, 0))) true 0) -> copyA H0 2 (.slice b 0 M (.known M)) vn = some (.int .i64 (ns.length : Nat), H.push (.cells (smps (scnL p [] ns 0 M)) true 0)) := by
    rintro b H0 rfl rfl;have g := get_push_eq (h := H) (b := .cells (smps (List.replicate M (0, 0))) true 0) (i := H.size) rfl;rw [copy2 (je4 cH (kab _ _)) g (by simp) hnl, List.drop_replicate, jil (es := []) hnl, push_put (h := H) (i := H.size) rfl]
   refine kar fun ph => ?_;refine zs3 f7 gm zr9 ?_;refine kar fun ph => ?_;refine zs2 f2 (cpy _ _ rfl rfl) ?_;have Vl2 := VH.len;have zHc := sHc.size;have zsz := hs.size;refine kaQ ?_;refine kar fun ph => ?_;refine zs2 f11 Vl2 ?_;refine kaP ?_;refine ka9 (fun j g st => ∃ (D rem : List EmitP), (D ++ rem).Perm es /\ j = rem.length /\ st.m = [] /\ st.t 17 = .ptr (h1.size + 1) 0 /\ st.t 20 = .slice H.size 0 M (.known M) /\ st.t 87 = .int .i64 (es.length : Nat) /\ st.t 88 = .int .i64 (D.length : Nat) /\ st.h.get H.size = some (.cells (smps (scnL p D ns D.length M)) true 0) /\ H.size < st.h.size /\
    (rem = [] -> g = .idle /\ HSub h st.h) /\ (rem ≠ [] -> ∃ Hs, g = .busy h1.size (rem.map fun e => waveP p e M) Hs /\ HSub Hc Hs /\ Hs.size <= H.size /\ ∃ wr u, st.h.get (h1.size + 1) = some (.cells [.chan h1.size] wr u))) (j0 := es.length)
    ⟨[], es, List.Perm.refl _, rfl, rfl, f17, rfl, rfl, rfl, get_push_eq rfl, by simp, fun q => ?_, fun q => ?_⟩ ?_
   ·obtain ⟨rfl, hHH⟩ := k0 (by rw [q]; rfl);exact ⟨rfl, by rw [hHH]; exact (hs.trans sHc).push _⟩
   ·obtain ⟨Hs, rfl, hHs, hHz⟩ := k1 (List.length_pos_iff.2 q);refine ⟨Hs, ?_, hHs, hHz, wc, uc, ?_⟩
    ·congr 1;refine List.ext_getElem (by simp) fun i a1 a2 => ?_;have : i < es.length := by simpa using a1
     simp [List.getD_eq_getElem?_getD, this]
    ·exact ((kab H _).get _ (kac gc)).trans gc
   ·rintro j g2 ⟨u2, H2, mk2⟩ ⟨D, rem, hperm, hj2, hm2, r17, r20, r87, r88, gb, zb, i0, i1⟩;dsimp only at hm2 r17 r20 r87 r88 gb zb i0 i1;subst hm2;have hlen := hperm.length_eq;rw [List.length_append] at hlen;refine kar fun ph => ?_;refine zs2 r87 r88 ?_;refine kar fun ph => ?_;refine zs ?_;refine kai (fun c3 => ?_) (fun c3 => ?_)
    ·have hrem : rem ≠ [] := by rintro rfl; simp at hlen; omega
     obtain ⟨Hs, rfl, hHs, hHz, wr', uu', gc2⟩ := i1 hrem;refine zs ?_;refine kaQ (kaP ?_);refine kaQ (kaR ?_);refine kaI rfl (by decide) ?_;refine zs2 r17 gc2 ?_;refine kbf ?_;show jjR (.busy h1.size (rem.map fun e => waveP p e M) Hs) (.chan h1.size) (some 91) _ ⟨_, H2, []⟩;refine jje (h := h) (Hc := Hc) (b := H.size) (by omega) (hs.trans sHc) hHs hHz zb gb fun g3 H3 A e B hr gr gb3 z3 hlast hmore => ?_;have hrs : D.length + (A ++ B).length + 1 = es.length := by rw [hr] at hlen; simp only [List.length_append, List.length_cons] at hlen |-; omega
     have hpe : (D ++ e :: (A ++ B)).Perm es := by
      rw [hr] at hperm;exact (List.Perm.append_left D (List.perm_middle.symm)).trans hperm
     have okD : ∀ i, i < D.length + 1 -> EmOk p ((D ++ [e]).getD i eD) := fun i hi => by
      have hm : (D ++ [e]).getD i eD ∈ es := by
       refine hpe.subset ?_;have hl : i < (D ++ [e]).length := by simp; omega
       rw [List.getD_eq_getElem?_getD, List.getElem?_eq_getElem hl, Option.getD_some];have := List.getElem_mem hl;rcases List.mem_append.1 this with q | q
       ·exact List.mem_append_left _ q
       ·rw [List.mem_singleton] at q; rw [q]; simp
      obtain ⟨m, hm1, hm2⟩ := List.getElem_of_mem hm;have := eok m hm1;rw [List.getD_eq_getElem?_getD, List.getElem?_eq_getElem hm1, Option.getD_some, hm2] at this;exact this
     refine kaI rfl (by decide) ?_;refine zs ?_;refine kaI rfl (by decide) ?_;refine zs ?_;refine ka0 ?_;refine kaM fun ph => ?_;refine zs ?_;refine jam (fun j u h' => ∃ n : Nat, u 93 = .int .i64 (n : Nat) /\ n <= M /\ j = M - n /\ u 17 = .ptr (h1.size + 1) 0 /\ u 20 = .slice H.size 0 M (.known M) /\ u 87 = .int .i64 (es.length : Nat) /\ u 88 = .int .i64 (D.length : Nat) /\ u 91 = .slice H2.size 0 M (.known M) /\ u 92 = .int .i64 (M : Nat) /\
      h'.get H.size = some (.cells (smps (scnP p (D ++ [e]) ns D.length n M)) true 0) /\ h'.get H2.size = some (.cells (smps (wv p e M M)) false 0) /\ H3.size <= h'.size /\ (∀ i, i < H3.size -> i ≠ H.size -> h'.get i = H3.get i)) (j0 := M)
      ⟨0, rfl, by omega, rfl, r17, r20, r87, r88, rfl, rfl, by rw [jik, jmD]; exact gb3, gr, Nat.le_refl _, fun _ _ _ => rfl⟩ ?_
     rintro j3 u3 H4 ⟨n, x93, hn, hj3, x17, x20, x87, x88, x91, x92, gb4, gr4, z4, K4⟩;refine zs2 x92 x93 ?_;refine kai (fun c4 => ?_) (fun c4 => ?_)
     ·have hn' : n < M := by omega
      have qS := kaO (l := wv p e M M) (m := M) (c := M) gr4 ⟨jep.symm, by omega⟩ (Nat.le_refl _);have ni := qS.idx (kk := .i64) (k := (n : Nat)) ⟨by omega, by rw [jep]; omega⟩;rw [Int.toNat_natCast] at ni;have ld := qS.loadA (k := n) (by rw [jep]; exact hn');have wg : (wv p e M M).getD n (0, 0) = atV p e (n : Nat) := by simp [wv, List.getD_eq_getElem?_getD, hn']
      rw [wg, elA_slice, load_ptr, gr4, Nat.zero_add] at ld;have okE : EmOk p e := by
       have := okD D.length (by omega);simpa [List.getD_eq_getElem?_getD] using this
      have hat := jjI okE (n : Nat);have sv0 := jhs (es := D ++ [e]) hp nin D.length n (fun i hi => okD i (by omega));have sv1 := jhs (es := D ++ [e]) hp nin (D.length + 1) n okD;have set := jjM (p := p) (es := D ++ [e]) (ns := ns) (k := D.length) hn';have get := jjL (p := p) (es := D ++ [e]) (ns := ns) (k := D.length) hn';have add : scnV p (D ++ [e]) ns (D.length + 1) n = addP (scnV p (D ++ [e]) ns D.length n) (atV p e (n : Nat)) := by
       rw [jit, jfg _ (Nat.le_refl _)]
      have ln : (scnP p (D ++ [e]) ns D.length n M).length = M := jfZ;have ln2 : (smps (scnP p (D ++ [e]) ns D.length n M)).length = M * 2 := by rw [ja7, ln]
      have sp := jd0 (l := scnP p (D ++ [e]) ns D.length n M) (k := n) (p := scnV p (D ++ [e]) ns (D.length + 1) n) (by rw [ln]; exact hn');have g1 : (scnP p (D ++ [e]) ns D.length n M)[n]? = some (scnV p (D ++ [e]) ns D.length n) := by
       rw [List.getD_eq_getElem?_getD, List.getElem?_eq_getElem (by rw [ln]; exact hn'), Option.getD_some] at get;rw [List.getElem?_eq_getElem (by rw [ln]; exact hn'), get]
      have i0' : (smps (scnP p (D ++ [e]) ns D.length n M))[n * 2]? = some (.int .i64 (scnV p (D ++ [e]) ns D.length n).1) := by rw [jcP, g1]; rfl
      have i1' : (smps (scnP p (D ++ [e]) ns D.length n M))[n * 2 + 1]? = some (.int .i64 (scnV p (D ++ [e]) ns D.length n).2) := by rw [jcQ, g1]; rfl
      rw [set] at sp;rw [add] at sp sv1;generalize atV p e (n : Nat) = y at ld hat sp sv1;generalize scnV p (D ++ [e]) ns D.length n = x at i0' i1' sv0 sp sv1;obtain ⟨y1, y2⟩ := y;obtain ⟨x1, x2⟩ := x;unfold inS at hat sv0 sv1;unfold smp at ld;unfold addP at sp sv1;dsimp only at hat sv0 sv1 sp i0' i1';have hkk : (D.length : Int) < 8 := by omega
      have nzz := hp.2.2.2.2.2.2;generalize scnP p (D ++ [e]) ns D.length n M = L at *;have i2' : ∀ v : AV, ((smps L).set (n * 2) v)[n * 2 + 1]? = some (.int .i64 x2) := fun v => by rw [List.getElem?_set_ne (by omega)]; exact i1'
      have ss : ∀ a b : AV, ((smps L).set (n * 2) a).set (n * 2 + 1) b = splice (smps L) (n * 2) [a, b] := fun a b => jf7 _ _ (by rw [ln2]; omega);have ln3 : ∀ v : AV, ((smps L).set (n * 2) v).length = M * 2 := fun v => by rw [List.length_set, ln2]
      refine zs ?_;refine zs7 x20 x91 x93 ni gr4 ld (zI gb4 (zI @i0' (zI @i1' (zI @i2' (zI ln2 (zI ln3 @Heap.wf)))))) ?_;refine ⟨_, ⟨n + 1, by omega, by omega, rfl, x17, x87, x88, x92, by rw [ss, sp], by omega, fun i hi hne => ?_⟩, by omega⟩;rw [kah, if_neg (by simp; omega)];exact (get_put_ne (by omega)).trans (K4 i hi hne)
     ·obtain rfl : n = M := by omega
      rw [jjK] at gb4;refine zs ?_;refine kaM fun ph => ?_;refine zs1 x88 ?_;have hD1 : (D ++ [e]).length = D.length + 1 := by simp
      refine ⟨(A ++ B).length, by rw [hj2, hr]; simp, D ++ [e], A ++ B, by rw [List.append_assoc]; exact hpe, rfl, x17, x20, x87, by rw [hD1]; omega, by rw [hD1]; exact gb4, by omega, fun q => ?_, fun q => ?_⟩
      ·obtain ⟨a, b⟩ := hlast q;have := b.size;exact ⟨a, ⟨by omega, fun i hi => by rw [K4 i (by omega) (by omega)]; exact b.get i hi⟩⟩
      ·obtain ⟨a, b⟩ := hmore q;have b1 := b.size;have b2 := kac gc2;refine ⟨Hs, a, hHs, hHz, wr', uu', ?_⟩;rw [K4 (h1.size + 1) (by omega) (by omega)];exact (b.get _ b2).trans gc2
    ·have hrem : rem = [] := List.eq_nil_of_length_eq_zero (by omega);subst hrem;obtain ⟨rfl, hsub⟩ := i0 rfl;refine zs ?_;rw [if_pos trivial];refine kaM fun ph => ?_;refine zs1 r20 ?_;rw [List.append_nil] at hperm;exact hfin _ _ H.size rfl rfl hsub (by omega) (by rw [gb, jlY hperm])
theorem jhu {es : List EmitP} {ns : List (Int × Int)} {m : Int} (h : jaT p es ns m = 0) : p.err = 0 /\ es.length <= 8 /\ 0 <= m /\ m <= 1048576 /\ (ns.length : Int) <= m /\ ∀ x ∈ ns, inS p.nz x := by
 unfold jaT at h;by_cases c : p.err ≠ 0
 ·rw [if_pos c] at h; exact absurd h c
 ·rw [if_neg c] at h;have pz := Classical.not_not.1 c;split at h
  ·cases h
  ·split at h
   ·rename_i q; exact absurd h q
   ·split at h
    ·cases h
    ·split at h
     ·cases h
     ·split at h
      ·cases h
      ·rename_i q1 q2 q3 q4 q5;exact ⟨pz, by omega, by omega, by omega, by omega, fun x hx => Classical.not_not.1 fun y => q5 ⟨x, hx, y⟩⟩
theorem jkM (hC : Has C TA) {vp ve vn : AV} {p : PlanP} {es : List EmitP} {ns : List (Int × Int)} {m : Int} {h : Heap} (R : RI h vp p.prns) (h64 : p.ok64) (E : EmsI h ve es) (h65 : ∀ k, k < es.length -> (es.getD k eD).ok64) (N : SI h vn ns) (hm : In64 m) :
  ACalls C.main0 231 [plA p vp, ve, vn, .int .i64 m] h (fun r h' => ∃ w, r = jau w (jaT p es ns m) /\ HSub h h' /\ SI h' w (if jaT p es ns m = 0 then scnL p es ns es.length m.toNat else []) /\ ∀ i ∈ w.ids, h.size <= i) := by
 refine jkG (hC.body (by decide) (by rfl : tab 231 = some B231)) (Nat.le_of_ble_eq_true rfl) ?_;refine jjd hC R h64 E h65 N hm (fun t h' hne a b hs => ⟨rfl, ?_⟩) (fun t h' cs hz eok a b hs gM V S => ?_)
 ·show ∃ w, AV.tuple [t 8, t 9] = jau w _ /\ _;rw [a, b];exact jdg rfl hne hs
 ·obtain ⟨pz, n8, m0, m1, nl, nin⟩ := jhu hz;have hp : p.numsOk := by
   by_cases q : p.numsOk
   ·exact q
   ·exfalso; unfold PlanP.err at pz; rw [if_neg q] at pz; cases pz
  obtain ⟨M, rfl⟩ := Int.eq_ofNat_of_zero_le m0;refine jkL hC h65 n8 (by omega) eok (by omega) hp nin (fun t' h2 b' x8 x9 hs' hb hg => ⟨rfl, ?_⟩) a b hs gM ((N.mono hs).content) V S;show ∃ w, AV.tuple [t' 8, t' 9] = jau w _ /\ _;rw [x8, x9, hz];refine ⟨.slice b' 0 M (.known M), rfl, hs', ?_, fun i hi => by simp only [AV.ids, List.mem_singleton] at hi; omega⟩;rw [if_pos rfl];exact kaO hg ⟨jfY.symm, by omega⟩ (Nat.le_refl _)
theorem EmsI.at7 {es : List EmitP} (H : EmsI h v es) (hi : i < es.length) : ∃ vb, RI h vb (es.getD i eD).bits /\ ∀ h', HSub h h' -> Ae.loadA h' false 1 (elF 8 v i 7) = some vb := by
 obtain ⟨L, rfl, b, c⟩ := H;rw [List.length_map] at hi;have e : (L.map (·.1)).getD i eD = L[i].1 := by simp [List.getD_eq_getElem?_getD, hi]
 rw [e];refine ⟨L[i].2, c _ (List.getElem_mem hi), fun h' hs => ?_⟩;rw [(b.mono hs).loadE hi (by decide), jhr hi (by decide)]; rfl
theorem jjf (hC : Has C TA) {ve : AV} {es : List EmitP} (R : RI h vp p.prns) (E : EmsI h ve es) : ACalls C 217 [plA p vp, ve] h (fun r h' => (∃ b : Bool, r = .bool b) /\ h' = h) := by
 refine kae (P := fun r h' => (∃ b : Bool, r = .bool b) /\ HSub h h') ?_ (fun r h' hp => ⟨by obtain ⟨b, hb⟩ := hp.1; rw [hb]; trivial, hp.2, hp.1, rfl⟩);have v1 := R.one;have El := E.len;have Elt := E.lt;unfold plA;have s1 := kab h (.cells [.int .i64 p.d, .int .i64 p.o, .int .i64 p.pb, .int .i64 p.w, .int .i64 p.mn, .int .i64 p.mx, .int .i64 p.nz, vp] true 0);have gp := get_push_eq (h := h) (b := .cells [.int .i64 p.d, .int .i64 p.o, .int .i64 p.pb, .int .i64 p.w, .int .i64 p.mn, .int .i64 p.mx, .int .i64 p.nz, vp] true 0) (i := h.size) rfl;have Rl := R.len;refine zf 217 B217 hC ?_; simp only [B217, zB]; refine zs ?_
 generalize h.push (.cells [.int .i64 p.d, .int .i64 p.o, .int .i64 p.pb, .int .i64 p.w, .int .i64 p.mn, .int .i64 p.mx, .int .i64 p.nz, vp] true 0) = H at *;refine jam (fun j t h' => h' = H /\ t 1 = ve /\ t 2 = .ptr h.size 0 /\ ∃ k : Nat, t 5 = .int .i64 (k : Nat) /\ k <= es.length /\ j = es.length - k) (j0 := es.length) ⟨rfl, rfl, rfl, 0, rfl, by omega, rfl⟩ ?_;rintro j t h' ⟨rfl, e1, e2, k, e5, hk, hj⟩;have fin : ∀ {P : Prop}, P -> P := fun h => h;by_cases c : k < es.length
 ·obtain ⟨_, ix, _, _, fl, _, _⟩ := E.at c;obtain ⟨vb, B, ld⟩ := E.at7 c;have ld := ld h' s1;have Bl := B.len;have c' : (k : Int) < (es.length : Nat) := by omega
  by_cases d : (k : Int) < 12
  ·refine zs7 e1 e2 e5 El @c' @d (zI @gV_u (zI ix (zI fl (zI ld Bl)))) ?_;refine kai (fun c5 => ?_) (fun c5 => ?_)
   ·refine zs ?_;exact ⟨⟨_, rfl⟩, s1⟩
   ·refine zs1 e5 ?_;exact ⟨_, ⟨e1, e2, k + 1, by simp, by omega, rfl⟩, by omega⟩
  ·refine zs7 e1 e2 e5 El @c' @d (zI @gV_u (zI gp Rl)) ?_;by_cases c6 : (40 : Int) < (p.prns.length : Nat)
   ·refine zs4 e1 El @c6 @gV_u ?_;exact ⟨⟨_, rfl⟩, s1⟩
   ·refine zs4 e1 El @c6 @gV_u ?_;exact ⟨⟨_, rfl⟩, s1⟩
 ·have c' : ¬ (k : Int) < (es.length : Nat) := by omega
  refine zs7 e1 e2 e5 El @c' @gV_u (zI gp Rl) ?_;by_cases c6 : (40 : Int) < (p.prns.length : Nat)
  ·refine zs4 e1 El @c6 @gV_u ?_;exact ⟨⟨_, rfl⟩, s1⟩
  ·refine zs4 e1 El @c6 @gV_u ?_;exact ⟨⟨_, rfl⟩, s1⟩
theorem SignalScenes_law (hC : Has C TA) {vp ve vn : AV} {p : PlanP} {es : List EmitP} {ns : List (Int × Int)} {m : Int} {h : Heap} (R : RI h vp p.prns) (h64 : p.ok64) (E : EmsI h ve es) (h65 : ∀ k, k < es.length -> (es.getD k eD).ok64) (N : SI h vn ns) (hm : In64 m) :
  ACalls C.main0 211 [plA p vp, ve, vn, .int .i64 m] h (fun r _ => r = .bool true) := by
 have hM : Has C.main0 TA := hC.main0;have v1 := R.one;have w1 := E.one;have n1 := N.one;have Nl := N.len;have Nlt := N.lt;have aw := fun h => jht hM (h := h);have kl := fun h1 (q : HSub h h1) => jjf hM (R.mono q) (E.mono q);have kP := fun h1 (q : HSub h h1) => jkM hC (R.mono q) h64 (E.mono q) h65 (N.mono q) hm;have kR := fun h1 (q : HSub h h1) => jkD hM (R.mono q) h64 (E.mono q) h65 (N.mono q) hm;have kS := fun va vb a b h1 (x : SI h1 va a) (y : SI h1 vb b) => jic hM x y;unfold plA at *;have q8 : loadB true 8 0 (some (.cells [.int .i64 p.d, .int .i64 p.o, .int .i64 p.pb, .int .i64 p.w, .int .i64 p.mn, .int .i64 p.mx, .int .i64 p.nz, vp] true 0)) = some (.agg [.int .i64 p.d, .int .i64 p.o, .int .i64 p.pb, .int .i64 p.w, .int .i64 p.mn, .int .i64 p.mx, .int .i64 p.nz, vp]) := rfl
 have s1 := kab h (.cells [.int .i64 p.d, .int .i64 p.o, .int .i64 p.pb, .int .i64 p.w, .int .i64 p.mn, .int .i64 p.mx, .int .i64 p.nz, vp] true 0);refine jdV (hM.body (by decide) (by rfl : tab 211 = some B211)) (Nat.le_of_ble_eq_true rfl) ?_;show wp C.main0 _ none B211.code _ _;simp only [B211, zB];refine zs1 q8 ?_;refine kad (kl _ s1) ?_;rintro r h1 ⟨⟨b, rfl⟩, hh1⟩;subst hh1;cases b with
 | true =>
  refine zs1 @gV_u ?_;refine kaa (aw _) ?_;exact ze
 | false =>
  by_cases c1 : (400 : Int) < (ns.length : Nat)
  ·refine zs3 @gV_u Nl @c1 ?_;refine kaa (aw _) ?_;exact ze
  ·by_cases c23 : 400 < m /\ m <= 1048576
   ·obtain ⟨c2, c3⟩ := c23;refine zs5 @gV_u Nl @c1 c2 c3 ?_;refine kaa (aw _) ?_;exact ze
   ·by_cases c2 : 400 < m
    ·have c3 : ¬ m <= 1048576 := fun q => c23 ⟨c2, q⟩;refine zs6 @gV_u Nl @c1 c2 c3 q8 ?_;refine kad (kP _ s1) ?_;rintro r h2 ⟨w, rfl, s2, S1, _⟩;have gp2 := (s2.get h.size (by simp)).trans (get_push_eq (h := h) (b := .cells [.int .i64 p.d, .int .i64 p.o, .int .i64 p.pb, .int .i64 p.w, .int .i64 p.mn, .int .i64 p.mx, .int .i64 p.nz, vp] true 0) (i := h.size) rfl);refine zs3 @jau.eq_1 gp2 q8 ?_;refine kad (kR _ (s1.trans s2)) ?_;rintro r h3 ⟨w', rfl, s3, S2, _⟩;refine zs1 @jau.eq_1 ?_;refine kaf (kS _ _ _ _ _ (S1.mono s3) S2) (by rw [decide_eq_true rfl]) (zs1 @gV_u ?_);refine kaa (aw _) ?_
     exact ze
    ·refine zs5 @gV_u Nl @c1 c2 q8 ?_;refine kad (kP _ s1) ?_;rintro r h2 ⟨w, rfl, s2, S1, _⟩;have gp2 := (s2.get h.size (by simp)).trans (get_push_eq (h := h) (b := .cells [.int .i64 p.d, .int .i64 p.o, .int .i64 p.pb, .int .i64 p.w, .int .i64 p.mn, .int .i64 p.mx, .int .i64 p.nz, vp] true 0) (i := h.size) rfl);refine zs3 @jau.eq_1 gp2 q8 ?_;refine kad (kR _ (s1.trans s2)) ?_;rintro r h3 ⟨w', rfl, s3, S2, _⟩;refine zs1 @jau.eq_1 ?_;refine kaf (kS _ _ _ _ _ (S1.mono s3) S2) (by rw [decide_eq_true rfl]) (zs1 @gV_u ?_);refine kaa (aw _) ?_;exact ze
open Go.ChangeShapes Go.WideShapes Go.ChangeAt Go.RowKit
structure InEms where
 l : List (EmitP × InB)
 nil : Bool
 blk : Nat
 off : Nat
 cap : Nat
def ecV (q : EmitP × InB) : List Value := [.int .i64 q.1.prn, .int .i64 q.1.dl, .int .i64 q.1.rt, .int .u32 q.1.st, .int .u32 q.1.ph, .int .i64 q.1.amp, .int .i64 q.1.ba, q.2.val]
def emL : Nat -> List (EmitP × InB) -> List (EmitP × AV)
 | _, [] => []
 | b, q :: l => (q.1, q.2.av b) :: emL (b + 1) l
theorem jeR : ∀ (b : Nat) (l : List (EmitP × InB)), (emL b l).length = l.length
 | _, [] => rfl
 | b, q :: l => by simp only [emL, List.length_cons, jeR (b + 1) l]
theorem jlZ : ∀ (b : Nat) (l : List (EmitP × InB)), (emL b l).map (·.1) = l.map (·.1)
 | _, [] => rfl
 | b, q :: l => by simp only [emL, List.map_cons, jlZ (b + 1) l]
theorem jjg : ∀ (b : Nat) (l : List (EmitP × InB)) (k : Nat), (emL b l)[k]? = (l[k]?).map fun q => (q.1, q.2.av (b + k))
 | _, [], k => by simp [emL]
 | b, q :: l, 0 => rfl
 | b, q :: l, k + 1 => by
  simp only [emL, List.getElem?_cons_succ, jjg (b + 1) l k];rw [show b + 1 + k = b + (k + 1) by omega]
def InEms.val (x : InEms) : Value := if x.nil then .slice none 0 0 else .slice (some ⟨x.blk, x.off, none⟩) x.l.length x.cap
def InEms.av (x : InEms) (i : Nat) : AV := if x.nil then .nilslice else .slice i 0 x.l.length (.known x.cap)
def InEms.row (x : InEms) (b : Nat) : Option (List AV) := if x.nil then none else some (emC (emL b x.l))
def InEms.eb (x : InEms) : EB := ⟨x.blk, x.off, 0⟩
def InEms.es (x : InEms) : List EmitP := x.l.map (·.1)
structure InEms.ok (x : InEms) (w : World) : Prop where
 isNil : x.nil = true -> x.l = []
 cap : x.nil = false -> x.l.length <= x.cap
 lt : x.l.length < 9223372036854775808
 blk : x.nil = false -> x.blk < w.heap.size
 cell : ∀ (k : Nat) q (j : Nat) v, x.l[k]? = some q -> (ecV q)[j]? = some v -> w.cell? ⟨x.blk, x.off + (k * 8 + j), none⟩ = some v
 each : ∀ q ∈ x.l, q.1.ok64 /\ q.2.ok w /\ q.1.bits = q.2.l
theorem InEms.ri {x : InEms} {bs : List (Option (List AV))} {b : Nat} (hx : x.ok w) (hi : bs[i]? = some (x.row b)) (hb : ∀ (k : Nat) q, x.l[k]? = some q -> bs[b + k]? = some q.2.row) : EmsI (argHeap bs) (x.av i) x.es := by
 refine ⟨emL b x.l, jlZ _ _, ?_, ?_⟩
 ·unfold InEms.av;cases hn : x.nil with
  | true => rw [hx.isNil hn, if_pos rfl]; exact ⟨rfl, (by show 0 < _; omega), .inl ⟨.inl rfl, rfl⟩⟩
  | false =>
   rw [if_neg (by simp), jeR];have hl := jdG (emL b x.l);rw [jeR] at hl;refine ⟨hl, hx.lt, .inr ⟨i, 0, _, _, false, 0, rfl, jbO (hi.trans (by simp [InEms.row, hn])), by omega, jiR hl.symm, hx.cap hn⟩⟩
 ·intro q hq;obtain ⟨k, hk⟩ := List.getElem?_of_mem hq;rw [jjg, Option.map_eq_some_iff] at hk;obtain ⟨y, hy, rfl⟩ := hk;have e := hx.each y (List.mem_of_getElem? hy);rw [e.2.2];exact kbo e.2.1 (hb k y hy)
theorem InEms.av_val {x : InEms} {lk : Nat -> FuncId} (he : env i = x.eb) : (x.av i).val lk env = x.val := by
 unfold InEms.av InEms.val;cases hn : x.nil with
 | true => rfl
 | false => simp [AV.val, he, InEms.eb, Cap.at]
theorem InEms.av_bel {x : InEms} {bs : List (Option (List AV))} {b : Nat} (hi : bs[i]? = some (x.row b)) : (x.av i).bel (argHeap bs).ok := by
 unfold InEms.av;cases hn : x.nil with
 | true => trivial
 | false =>
  show (argHeap bs).ok i;have : bs[i]? = some (some (emC (emL b x.l))) := hi.trans (by simp [InEms.row, hn]);simp [Heap.ok, jbO this]
theorem InEms.rowOk {C : Ctx} {x : InEms} {w : World} {bs : List (Option (List AV))} {env : Env} {i b : Nat} {vs : List AV} (hx : x.ok w) (he : env i = x.eb) (hv : x.row b = some vs) (hb : ∀ (k : Nat) q, x.l[k]? = some q -> bs[b + k]? = some q.2.row /\ env (b + k) = q.2.eb) : (env i).blk < w.heap.size /\ (∀ v ∈ vs, v.bel (argHeap bs).ok) /\
  ∀ k v, vs[k]? = some v -> w.cell? ⟨(env i).blk, (env i).sh + k, none⟩ = some (v.val C.lk env) := by
 unfold InEms.row at hv;split at hv
 ·cases hv
 ·rename_i hn;cases hv;rw [he];have key : ∀ (m : Nat) v, (emC (emL b x.l))[m]? = some v -> ∃ (k j : Nat) (q : EmitP × InB), m = k * 8 + j /\ x.l[k]? = some q /\ (ecell (q.1, q.2.av (b + k)))[j]? = some v := by
   intro m v hm;have hlt := (List.getElem?_eq_some_iff.1 hm).1;rw [jdG] at hlt;have h8 : m / 8 < (emL b x.l).length := by omega
   have e : m = m / 8 * 8 + m % 8 := by omega
   rw [e, jhr h8 (Nat.mod_lt _ (by decide))] at hm;have g := List.getElem?_eq_getElem h8;rw [jjg, Option.map_eq_some_iff] at g;obtain ⟨q, hq, hq2⟩ := g;refine ⟨m / 8, m % 8, q, e, hq, ?_⟩;rw [hq2]; exact hm
  refine ⟨hx.blk (by simpa using hn), ?_, ?_⟩
  ·intro v hv;obtain ⟨m, hm⟩ := List.getElem?_of_mem hv;obtain ⟨k, j, q, _, hq, hj⟩ := key m v hm;have hm := List.mem_of_getElem? hj;simp only [ecell, List.mem_cons, List.not_mem_nil, or_false] at hm;rcases hm with rfl | rfl | rfl | rfl | rfl | rfl | rfl | rfl
   all_goals first | trivial | exact ka4 (w := w) (hb k q hq).1
  ·intro m v hm;obtain ⟨k, j, q, rfl, hq, hj⟩ := key m v hm;refine hx.cell k q j _ hq ?_;have ev : (ecV q) = (ecell (q.1, q.2.av (b + k))).map (AV.val C.lk env) := by
    simp only [ecV, ecell, List.map_cons, List.map_nil, AV.val, ka5 (hb k q hq).2]
   rw [ev, List.getElem?_map, hj]; rfl
theorem InEms.h65 {x : InEms} (hx : x.ok w) : ∀ k, k < x.es.length -> (x.es.getD k eD).ok64 := by
 intro k hk;unfold InEms.es at *;rw [List.length_map] at hk;have e : (x.l.map (·.1)).getD k eD = x.l[k].1 := by simp [List.getD_eq_getElem?_getD, hk]
 rw [e];exact (hx.each _ (List.getElem_mem hk)).1
theorem jnl {a : Addr} : ∀ (n : Nat) {cs : List Value}, w.cells? 0 a n = some cs -> cs.length = n /\ ∀ (j : Nat) v, cs[j]? = some v -> w.cell? (a.add j) = some v := by
 intro n cs h;unfold World.cells? at h;rw [if_pos (Nat.zero_le _)] at h;refine ⟨by simpa using mapM_some_length h, fun j v hv => ?_⟩;have hj : j < n := by
  have h1 := mapM_some_length h;have h2 := (List.getElem?_eq_some_iff.1 hv).1;simp at h1; omega
 exact (mapM_some_get h j j (by simp [hj])).trans hv
section
variable {H : Type} {enc : TypeId × Value -> H} {P : Program} {w : World}
theorem open_ems {b0 n : Nat} {t e : TypeId} {v : Value} {d : DataW H} {ps : List MemPlace} (ht : P.underlying t = some (.slice e)) (he : lfOf P n e = some [.int .i64, .int .i64, .int .i64, .int .u32, .int .u32, .int .i64, .int .i64, .ints]) (hc : P.cellsOf e = 8)
  (hval : Value.okWide P w .any b0 t v) (hd : DataW.Trod enc P w 0 (fun _ => true) true t v d ps) : ∃ x : InEms, v = x.val /\ x.ok w := by
 have hval' := hval;obtain ⟨a0, len, cap, rfl⟩ := okWide_slice ht hval;obtain ⟨fuel, hf⟩ := hd;rcases DataW.trod_slice ht hf with ⟨hcs, _⟩ | ⟨a, len', cap', elems, rest, m, _, hcs, _, _, hl, hm, hlen, hel, hsp, _⟩
 ·simp only [Value.cells, Array.toList] at hcs;cases hcs;exact ⟨⟨[], true, 0, 0, 0⟩, rfl, ⟨fun _ => rfl, fun h => (by cases h), by simp, fun h => (by cases h), by simp, by simp⟩⟩
 ·simp only [Value.cells, Array.toList] at hcs;cases hcs;unfold Value.okWide at hval';rw [ht] at hval';obtain ⟨hspot, hblk⟩ := jfO (P := P) (t := t) hval';have hmax : cap <= 9223372036854775807 := hm;obtain ⟨ab, ao, asp⟩ := a;simp only at hspot hblk;subst hspot;have hadd : ∀ o k, Addr.add ⟨ab, o, none⟩ k = ⟨ab, o + k, none⟩ := by intro o k; unfold Addr.add; split <;> simp_all
  have each : ∀ i, i < len -> ∃ q : EmitP × InB, (∀ (j : Nat) v, (ecV q)[j]? = some v -> w.cell? ⟨ab, ao + (i * 8 + j), none⟩ = some v) /\ q.1.ok64 /\ q.2.ok w /\ q.1.bits = q.2.l := by
   intro i hi;have q := hel i hi;have hlt : i < elems.length := by omega
   rw [List.getElem?_eq_getElem hlt, hc, Option.bind_eq_some_iff] at q;obtain ⟨cs, hcs, htr⟩ := q;obtain ⟨_, hcell⟩ := jnl 8 hcs;have F := jfN n e _ _ _ _ he htr;obtain ⟨n0, _, rfl, g0, n1, _, rfl, g1, n2, _, rfl, g2, n3, _, rfl, g3, n4, _, rfl, g4, n5, _, rfl, g5, n6, _, rfl, g6, x, _, rfl, gx, rfl⟩ := F;refine ⟨(⟨n0, n1, n2, n3, n4, n5, n6, x.l⟩, x), fun j v hv => ?_, ⟨wf_i64 g0, wf_i64 g1, wf_i64 g2, jmJ g3, jmJ g4, wf_i64 g5, wf_i64 g6, x.num gx⟩, gx, rfl⟩;have := hcell j v hv;rw [hadd, hadd, Nat.add_assoc] at this;exact this
  obtain ⟨l, hll, hq⟩ := jdW len each;refine ⟨⟨l, false, ab, ao, cap⟩, ?_, ⟨fun h => (by cases h), fun _ => (by rw [hll]; exact hl), (by rw [hll]; omega), fun _ => hblk, fun k q j v hk hj => (hq k q hk).1 j v hj, ?_⟩⟩
  ·simp only [InEms.val, Bool.false_eq_true, if_false, hll]
  ·intro q hq';obtain ⟨i, hi⟩ := List.getElem?_of_mem hq';exact (hq i q hi).2
end
end Go.Ae
