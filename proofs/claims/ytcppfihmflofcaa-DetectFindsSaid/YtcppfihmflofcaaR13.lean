/- Texts of the proof, part 13: a second reading of the lowered code, proved sound, and what the functions compute. -/
import Derived.Test.YtcppfihmflofcaaR12
/- DetectFinds. -/
set_option linter.unusedSimpArgs false
set_option linter.unusedVariables false
namespace Go.Ae
section
variable {C : Ctx}
set_option maxHeartbeats 8000000 in
set_option maxRecDepth 20000 in
theorem DetectFinds_law (hC : Has C T309) {vl ve vn : AV} {l em no : List Int} {shift : Int} {h : Heap} (Rl : RI h vl l) (Re : RI h ve em) (Rn : RI h vn no) (i1 : In64 shift) (hxl : ∀ x ∈ l, In64 x) (hxe : ∀ x ∈ em, In64 x) (hxn : ∀ x ∈ no, In64 x) (K : KnownCap ve) :
  ACalls C 309 [vl, ve, vn, .int .i64 shift] h (fun r _ => r = .bool true) := by
 have kQ := fun H (q : HSub h H) => Quiet_spec (zu hC T328) (Rl.mono q) hxl
 have pe := quiet_err l
 have p64 := quiet_64 l
 generalize quietOf l = p at *
 have ok := planOk_of pe
 have sz := size_range ok.nums
 have po := ok.nums.2.1
 have kK := fun H => known307_spec (zu hC T307) (h := H)
 have T6 := fun H => Turn_spec (h := H) (x := shift) (n := 6) (zu hC T23) i1 (by omega)
 have r6 := Int.emod_nonneg shift (show (6 : Int) ≠ 0 by decide)
 have r6' := Int.emod_lt_of_pos shift (show (0 : Int) < 6 by decide)
 have gz : gErr 8 (4 + shift % 6) = 0 := by unfold gErr; rw [if_pos (by omega)]
 have hs : 0 ≤ 4 + shift % 6 ∧ 4 + shift % 6 ≤ 30 := by omega
 have hmE : ∃ m : Nat, (m : Int) = 4 * p.size := ⟨(4 * p.size).toNat, by omega⟩
 obtain ⟨m, hm⟩ := hmE
 have kS := fun vp H (R : RI H vp p.prns) (q : HSub h H) => scene329_spec (zu hC T329) R p64 pe (Re.mono q) K hxe (Rn.mono q) hxn gz (show m ≤ 1048576 by omega)
 have kZ := fun vp H (v1 : vp.one = true) => size244_spec (zu hC T244) (h := H) (vp := vp) ok.nums v1
 have es8 := esK_len p em p.prns.length
 have eK : ∀ e ∈ esK p em p.prns.length, emitErr p e = 0 ∧ e.ok64 ∧ e.prn ∈ p.prns := fun e he => by
  obtain ⟨a, b, i, hi, q⟩ := esK_ok pe ok.nums p64 _ (Nat.le_refl _) e he
  exact ⟨a, b, by rw [q]; exact getD_mem hi⟩
 have nd := esK_nd (l := em) ok.nodup pe ok.nums p64 p.prns.length (Nat.le_refl _)
 have esum := fun prn (hin : prn ∈ p.prns) => esK_sum (l := em) ok hin p.prns.length (Nat.le_refl _)
 have esu : ∀ prn ∈ p.prns, sgK (fun i => sumI p.d p.o prn ((esK p em p.prns.length).getD i eD).prn) (esK p em p.prns.length).length ≤ p.oth prn + sumI p.d p.o prn prn := fun prn hin => by
  have q := esum prn hin
  rw [List.take_length, if_pos hin] at q
  exact q
 clear esum
 generalize esK p em p.prns.length = es at *
 have eok : ∀ e ∈ es, EmOk p e := fun e he => emit_ok (eK e he).1
 have mem : ∀ k, k < es.length → es.getD k eD ∈ es := fun k hk => by rw [List.getD_eq_getElem?_getD, List.getElem?_eq_getElem hk]; exact List.getElem_mem _
 have nin := noiL_in (l := no) (z := p.nz) ok.nums.2.2.2.2.2.2.1 (k := m)
 have fin := fun (a i0 : Nat) (k : Int) (c1 : lostK 8 (4 + shift % 6) (scnL p es (noiL no p.nz m) es.length m) m = 0) (hi : i0 < es.length) (ha : (a : Int) + p.size ≤ m) (hk : (a : Int) = (es.getD i0 eD).sta p k) (su : sureB p (4 + shift % 6) (es.getD i0 eD).prn = true) =>
  fin_window ok hs eok nd nin hi c1 ha hk su (esu _ (eK _ (mem i0 hi)).2.2)
 have ql : (qntL 8 (4 + shift % 6) (scnL p es (noiL no p.nz m) es.length m)).length = m := by unfold qntL; rw [List.length_map, scnL_length]
 have qin : ∀ x ∈ qntL 8 (4 + shift % 6) (scnL p es (noiL no p.nz m) es.length m), inS 127 x := fun x hx => by
  obtain ⟨y, _, rfl⟩ := List.mem_map.1 hx
  have tv : ∀ z : Int, -127 ≤ lvlI 8 (4 + shift % 6) z ∧ lvlI 8 (4 + shift % 6) z ≤ 127 := fun z => by
   have t7 : topI 8 = 127 := by decide
   unfold lvlI
   rw [t7]
   split
   ·omega
   ·split <;> omega
  have t1 := tv y.1
  have t2 := tv y.2
  unfold inS
  dsimp only
  omega
 generalize qntL 8 (4 + shift % 6) (scnL p es (noiL no p.nz m) es.length m) = Q at *
 have sl := scnL_length (p := p) (es := es) (ns := noiL no p.nz m) (k := es.length) (m := m)
 generalize scnL p es (noiL no p.nz m) es.length m = sc at *
 have be : ∀ prn ∈ p.prns, ∀ a : Int, -2000000 ≤ a → a ≤ 2000000 → bankErr Q p.d p.o prn a = 0 := fun prn hin a h1 h2 => by
  have se : sampErr p.d p.o [prn] = 0 := ok.samp (fun x hx => by rw [List.mem_singleton] at hx; rw [hx]; exact hin)
  unfold bankErr
  rw [if_neg (by omega), if_neg (by simpa using qin), if_neg (by rw [se]; decide), if_neg (by omega)]
 have kB := fun v prn a H (S : SI H v Q) (hin : prn ∈ p.prns) (h1 : 0 ≤ a) (h2 : a ≤ 100000) => BSumR_spec (zu hC T276) (a := a) S p64.1 p64.2.1 (p64.2.2.2.2.2.2.2 _ hin) (by unfold In64; omega)
 have xr : ∀ prn a : Int, inS 1039368 (sumP Q (sampL p.d prn p.o.toNat) a) := fun prn a => by
  have sl1 : ((sampL p.d prn p.o.toNat).length : Int) = p.size := by rw [sampL_length, sz.2.2]
  have q := sumK_le (a := a) qin (sampL_one1 p.d prn p.o.toNat) (sampL p.d prn p.o.toNat).length
  exact inS_mono q (by omega)
 have bE : ∀ prn ∈ p.prns, ∀ a : Int, 0 ≤ a → a ≤ 100000 → bsumE Q p.d p.o prn a = .tuple [smp (sumP Q (sampL p.d prn p.o.toNat) a), .int .i64 0] := fun prn hin a h1 h2 => by unfold bsumE; rw [if_pos (be prn hin a (by omega) (by omega))]
 have dE : ∀ prn ∈ p.prns, detErr p 8 (4 + shift % 6) prn = 0 := fun prn hin => by
  unfold detErr askErr
  rw [if_pos pe, gz, if_pos rfl, if_pos hin]
 have cE : ∀ prn ∈ p.prns, ∀ pw mm : Int, 0 ≤ pw → 1 ≤ mm → mm ≤ 3 → claimE p 8 (4 + shift % 6) prn pw mm = .tuple [.bool (claimB (thrI p (4 + shift % 6) prn) pw mm), .int .i64 0] := fun prn hin pw mm h1 h2 h3 => by
  unfold claimE; rw [if_pos (dE prn hin), if_neg (by omega)]
 have uE : ∀ prn ∈ p.prns, sureE p 8 (4 + shift % 6) prn = .tuple [.bool (sureB p (4 + shift % 6) prn), .int .i64 0] := fun prn hin => by
  unfold sureE; rw [if_pos (dE prn hin)]
 have kU := fun vp prn H (R : RI H vp p.prns) => Sure_spec (zu hC T321) (b := 8) (s := 4 + shift % 6) (prn := prn) R p64
 have kC := fun vp prn pw mm H (R : RI H vp p.prns) (h1 : 0 ≤ pw) (h2 : pw ≤ 7000000000000) (h3 : 1 ≤ mm) (h4 : mm ≤ 3) => Claims_spec (zu hC T313) (b := 8) (s := 4 + shift % 6) (prn := prn) (pw := pw) (m := mm) R p64 (by unfold In64; omega) (by unfold In64; omega)
 have sE : ∀ e ∈ es, ∀ k : Nat, k < 3 → startE p e (k : Nat) = tup2 (e.sta p (k : Nat)) 0 := fun e he k hk => by
  have me : madeErr p e (k : Nat) = 0 := by unfold madeErr; rw [(eK e he).1, if_pos rfl, if_neg (by omega)]
  unfold startE; rw [if_pos me]
 have kT := fun v w e H (k : Nat) (hp : PlI H v p) (hw : EmI H w e) (he : e ∈ es) (hk : k < 3) => StartR_spec (zu hC T222) (n := (k : Nat)) hp hw p64 (eK e he).2.1 (by unfold In64; omega)
 have sR : ∀ e ∈ es, ∀ k : Nat, k < 3 → -100000 ≤ e.sta p (k : Nat) ∧ e.sta p (k : Nat) ≤ 100000 := fun e he k hk => by
  have en := (eok e he).en
  have d1 := en.1
  have d2 := en.2.1
  unfold EmitP.sta stI
  rcases (show k = 0 ∨ k = 1 ∨ k = 2 by omega) with rfl | rfl | rfl <;> omega
 generalize hsh : 4 + shift % 6 = s at *
 rw [hm] at kS
 unfold PlI gA at *
 unfold plA at *
 refine zf hC tab309 ?_; simp only [B309]; refine zs ?_
 refine ACallsK.eq (kK _) ?_
 refine zs ?_
 refine ACallsK.of (kQ _ (HSub.refl h)) ?_
 rintro r h1 ⟨s1, vq, rfl, R⟩
 have v1 := R.one
 have zz := s1.size
 refine zs ?_
 refine ACallsK.eq (T6 _) ?_
 refine zs1 @hsh ?_
 refine ACallsK.hide (fun H hH => ?_)
 have g10 : H.get h1.size = some (.cells [.int .i64 p.d, .int .i64 p.o, .int .i64 p.pb, .int .i64 p.w, .int .i64 p.mn, .int .i64 p.mx, .int .i64 p.nz, vq] true 0) := by rw [hH]; exact ze
 have g11 : H.get (h1.size + 1) = some (.cells [.int .i64 8, .int .i64 s] true 0) := by rw [hH]; exact ze
 have sH : HSub h H := by rw [hH]; exact (zh s1)
 have RH : RI H vq p.prns := by rw [hH]; exact R.mono (zh (HSub.refl h1))
 clear hH
 refine ACallsK.eq (kZ _ _ v1) ?_
 refine zs2 @g10 @g11 ?_
 refine ACallsK.of (kS _ _ RH sH) ?_
 rintro r h4 ⟨s4, ws, we, rfl, W, E⟩
 have g10 := (s4.get _ (Heap.lt_of_get g10)).trans g10
 have g11 := (s4.get _ (Heap.lt_of_get g11)).trans g11
 have R4 := RH.mono s4
 refine zs ?_
 refine Br.by (fun c1 => ?_) (fun c1 => ?_)
 rotate_left
 ·exact ze
 refine zs ?_
 refine wp_loopI (fun j t H' => HSub h4 H' ∧ t 9 = .bool true ∧ t 10 = .ptr h1.size 0 ∧ t 11 = .ptr (h1.size + 1) 0 ∧ t 12 = .int .i64 p.size ∧ t 13 = ws ∧ t 14 = we ∧ ∃ i : Nat, t 16 = .int .i64 (i : Nat) ∧ i ≤ es.length ∧ j = es.length - i) (j0 := es.length)
  ⟨HSub.refl _, rfl, rfl, rfl, rfl, rfl, rfl, 0, rfl, by omega, rfl⟩ ?_
 rintro j t H' ⟨sH', e9, e10, e11, e12, e13, e14, i, e16, hi, hj⟩
 have E1 := E.mono sH'
 have El := E1.len
 have W1 := W.mono sH'
 have Wl := W1.len
 have R1 := R4.mono sH'
 have g10' := (sH'.get _ (Heap.lt_of_get g10)).trans g10
 have g11' := (sH'.get _ (Heap.lt_of_get g11)).trans g11
 refine zs3 @e14 @e16 @El ?_
 refine Br.by (fun c2 => ?_) (fun c2 => ?_)
 ·have hi' : i < es.length := by omega
  have ol := ok.len
  have eat := E1.at hi'
  obtain ⟨vb, i8, l8, Bb, f8, l0, l1⟩ := eat
  have l0' := l0 _ (HSub.refl _)
  have f80 := f8 0
  have em := mem i hi'
  have pin := (eK _ em).2.2
  have kUi := fun H2 (q : HSub H' H2) => kU _ (es.getD i eD).prn H2 (R1.mono q)
  rw [uE _ pin] at kUi
  have fini := fun (a : Nat) k => fin a i k c1 hi'
  refine zs9 @e10 @e11 @e14 @e16 @i8 @f80 @l0' @g10' @g11' ?_
  refine ACallsK.of (kUi _ (HSub.refl H')) ?_
  rintro r h5 ⟨rfl, s5⟩
  have sB := sH'.trans s5
  generalize sureB p s (es.getD i eD).prn = su at *
  refine zs ?_
  refine wp_loopI (fun j3 u H6 => HSub h4 H6 ∧ u 9 = .bool true ∧ u 10 = .ptr h1.size 0 ∧ u 11 = .ptr (h1.size + 1) 0 ∧ u 12 = .int .i64 p.size ∧ u 13 = ws ∧ u 14 = we ∧ u 16 = .int .i64 (i : Nat) ∧ u 17 = .bool su ∧ ∃ k : Nat, u 19 = .int .i64 (k : Nat) ∧ k ≤ 3 ∧ j3 = 3 - k) (j0 := 3)
   ⟨sB, e9, e10, e11, e12, e13, e14, e16, rfl, 0, rfl, by omega, rfl⟩ ?_
  rintro j3 u H6 ⟨s6, f9, f10, f11, f12, f13, f14, f16, f17, k, f19, hk, hj3⟩
  have g10' := (s6.get _ (Heap.lt_of_get g10)).trans g10
  have g11' := (s6.get _ (Heap.lt_of_get g11)).trans g11
  have E6 := E.mono s6
  have W6 := W.mono s6
  have Wl6 := W6.len
  have R6 := R4.mono s6
  have eat := E6.at hi'
  obtain ⟨vb, i8, l8, Bb, f8, l0, l1⟩ := eat
  have l8' := l8 _ (HSub.refl _)
  have f80 := f8 0
  cases su with
  | false =>
   refine zs2 @f17 @gV_u ?_
   refine zs1 @f16 ?_
   exact ⟨_, ⟨s6, f9, f10, f11, f12, f13, f14, i + 1, rfl, by omega, rfl⟩, by omega⟩
  | true =>
   refine zs2 @f17 @f19 ?_
   refine Br.by (fun c3 => ?_) (fun c3 => ?_)
   ·have hk3 : k < 3 := by omega
    have kTk := kT _ (emA (es.getD i eD) vb) _ H6 k ⟨vq, rfl, R6⟩ ⟨vb, rfl, Bb⟩ em hk3
    rw [sE _ em k hk3] at kTk
    have sRk := sR _ em k hk3
    have finK := fini ((es.getD i eD).sta p (k : Nat)).toNat (k : Nat)
    have kBk := fun (h1 : 0 ≤ (es.getD i eD).sta p (k : Nat)) H2 (q : HSub H6 H2) => kB _ _ ((es.getD i eD).sta p (k : Nat)) H2 (W6.mono q) pin h1 sRk.2
    have eBk := fun (h1 : 0 ≤ (es.getD i eD).sta p (k : Nat)) => bE _ pin ((es.getD i eD).sta p (k : Nat)) h1 sRk.2
    have xk := xr (es.getD i eD).prn ((es.getD i eD).sta p (k : Nat))
    generalize hS : (es.getD i eD).sta p (k : Nat) = S at *
    unfold tup2 emA at *
    have pack : 0 ≤ S ∧ S + p.size ≤ m → ∃ x1 x2 : Int, (0 ≤ x1 * x1 ∧ x1 * x1 ≤ 1100000000000 ∧ 0 ≤ x2 * x2 ∧ x2 * x2 ≤ 1100000000000) ∧ ACalls C 276 [ws, .int .i64 p.d, .int .i64 p.o, .int .i64 (es.getD i eD).prn, .int .i64 S] (H6.reserve 18) (fun r h' => r = .tuple [.agg [.int .i64 x1, .int .i64 x2], .int .i64 0] ∧ h' = H6.reserve 18) ∧
      (∀ H2, HSub H6 H2 → ACalls C 313 [(.agg [.int .i64 p.d, .int .i64 p.o, .int .i64 p.pb, .int .i64 p.w, .int .i64 p.mn, .int .i64 p.mx, .int .i64 p.nz, vq]), .agg [.int .i64 8, .int .i64 s], .int .i64 (es.getD i eD).prn, .int .i64 (x1 * x1 + x2 * x2), .int .i64 1] H2 (fun r h' => r = .tuple [.bool true, .int .i64 0] ∧ HSub H2 h')) := fun h0 => by
     have kBk := kBk h0.1 _ ((HSub.refl H6).reserve 18)
     rw [eBk h0.1] at kBk
     have ea : ((S.toNat : Nat) : Int) = S := by omega
     have finK := finK (by omega) ea rfl
     rw [ea] at finK
     unfold smp at kBk
     unfold inS at xk
     generalize sumP Q (sampL p.d (es.getD i eD).prn p.o.toNat) S = X at kBk xk finK
     obtain ⟨x1, x2⟩ := X
     dsimp only at kBk xk finK
     have m1 := mul_bd (k := x1) (s := x1) (K := 1039368) (S := 1039368) xk.1 xk.1
     have m2 := mul_bd (k := x2) (s := x2) (K := 1039368) (S := 1039368) xk.2 xk.2
     have n1 := sq_nn x1
     have n2 := sq_nn x2
     have kCk := fun H2 (q : HSub H6 H2) => kC _ (es.getD i eD).prn (x1 * x1 + x2 * x2) 1 H2 (R6.mono q) (by omega) (by omega) (by omega) (by omega)
     rw [cE _ pin _ _ (by omega) (by omega) (by omega)] at kCk
     have cl : claimB (thrI p s (es.getD i eD).prn) (x1 * x1 + x2 * x2) 1 = true := decide_eq_true (by omega)
     rw [cl] at kCk
     exact ⟨x1, x2, by omega, kBk, kCk⟩
    clear finK kBk eBk xk
    refine zs7 @f10 @f14 @f16 @f19 @i8 @l8' @g10' ?_
    refine ACallsK.eq kTk ?_
    refine zs ?_
    refine Br.by (fun c4 => ?_) (fun c4 => ?_)
    ·refine zs2 @c4 @gV_u ?_
     refine zs1 @f19 ?_
     exact ⟨_, ⟨s6, f9, f10, f11, f12, f13, f14, f16, f17, k + 1, rfl, by omega, rfl⟩, by omega⟩
    ·refine zs4 @c4 @f12 @f13 @Wl6 ?_
     refine Br.by (fun c6 => ?_) (fun c6 => ?_)
     ·refine zs1 @c6 ?_
      refine zs1 @f19 ?_
      exact ⟨_, ⟨s6, f9, f10, f11, f12, f13, f14, f16, f17, k + 1, rfl, by omega, rfl⟩, by omega⟩
     ·have h0 : 0 ≤ S ∧ S + p.size ≤ m := by omega
      have pk := pack h0
      obtain ⟨x1, x2, xb, kBk, kCk⟩ := pk
      have l10 := Heap.lt_of_get g10'
      have l11 := Heap.lt_of_get g11'
      have sU : ∀ b, HSub H6 ((H6.reserve 18).put (H6.size + 15) b) := fun b => (zh (HSub.refl H6))
      have l81 := fun b => l0 _ (sU b)
      refine zs10 @c6 @f10 @f13 @f14 @f16 @i8 @f80 @l0 @g10' @gV_u ?_
      refine ACallsK.eq kBk ?_
      refine zs10 @f10 @f11 @f14 @f16 @i8 @f80 @l81 @g10' @g11' @Heap.wf ?_
      refine ACallsK.of (kCk _ (zh (HSub.refl H6))) ?_
      rintro r h7 ⟨rfl, s7⟩
      have s8 := s6.trans (HSub.trans (zh (HSub.refl H6)) s7)
      refine zs1 @f19 ?_
      exact ⟨_, ⟨s8, f9, f10, f11, f12, f13, f14, f16, f17, k + 1, rfl, by omega, rfl⟩, by omega⟩
   ·obtain rfl : k = 3 := by omega
    refine zs1 @c3 ?_
    refine zs1 @f16 ?_
    exact ⟨_, ⟨s6, f9, f10, f11, f12, f13, f14, i + 1, rfl, by omega, rfl⟩, by omega⟩
 ·exact ze1 @e9
end
end Go.Ae
