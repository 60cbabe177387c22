/- Texts of the proof, part 13: a second reading of the lowered code, proved sound, and what the functions compute. -/
import Derived.Sort.Row
import Derived.Sort.Grow
import Derived.Test.YtkcefboocpfgjaaGreatQ12
set_option linter.unusedSimpArgs false
set_option linter.unusedVariables false
namespace Go.Ae
open Go.Sort
end Go.Ae
namespace Go.Ae
theorem GrwS.at {h0 h : Heap} {v : AV} {l : List (Int × Int)} (A : GrwS h0 h v l) (hl : 0 < l.length) : ∃ i ex, h0.size ≤ i ∧ v = .slice i 0 l.length (.unk 0) ∧ h.get i = some (.cells (smps l ++ ex) true 2) := by
 obtain ⟨_, _, _, ⟨_, h1⟩ | ⟨i, ex, hi, hv, hg⟩⟩ := A
 ·omega
 ·exact ⟨i, ex, hi, hv, hg⟩
theorem GrwS.turn {h0 h : Heap} {i : Nat} {l : List (Int × Int)} {ex : List AV} {k : Nat} {x y : Int} (A : GrwS h0 h (.slice i 0 l.length (.unk 0)) l) (hi : h0.size ≤ i) (hg : h.get i = some (.cells (smps l ++ ex) true 2)) (hk : k < l.length) (hx : (l.getD k (0, 0)).1 = x) :
  (smps l ++ ex).set (k * 2 + 1) (.int .i64 y) = smps (l.set k (x, y)) ++ ex ∧ GrwS h0 (h.put i (.cells (smps (l.set k (x, y)) ++ ex) true 2)) (.slice i 0 l.length (.unk 0)) (l.set k (x, y)) := by
 have hlt := Heap.lt_of_get hg
 have hle : (l.set k (x, y)).length = l.length := List.length_set
 refine ⟨?_, ⟨A.sub.put hi _, jaG, by have := A.2.2.1; omega, .inr ⟨i, ex, hi, by rw [hle], jaP rfl hlt⟩⟩⟩
 rw [List.set_append_left _ _ (by rw [jaG]; omega)]
 congr 1
 clear A hg hi hlt hle
 induction l generalizing k with
 | nil => simp at hk
 | cons p l ih =>
  cases k with
  | zero =>
   simp only [List.getD_cons_zero] at hx
   rw [jaW, List.set_cons_zero, jaW, hx]; rfl
  | succ k =>
   rw [List.getD_cons_succ] at hx
   rw [show (k + 1) * 2 + 1 = k * 2 + 1 + 1 + 1 by omega, jaW, List.set_cons_succ, List.set_cons_succ, List.set_cons_succ, jaW, ih (by simpa using hk) hx]
section
variable {C : Ctx}
end
end Go.Ae
namespace Go.Ae
theorem jel (d p : Int) : jap d p = 0 ∨ jap d p = 2 := by unfold jap; split <;> simp
section
variable {C : Ctx}
end
end Go.Ae
namespace Go.Ae
def LLI (h : Heap) (v : AV) (ll : List (List Int)) : Prop := ∃ vs : List AV, SL h 1 v ll.length vs ∧ vs.length = ll.length ∧ ∀ i, i < ll.length → RI h (vs.getD i .nilslice) (ll.getD i [])
theorem LLI.mono {h h' : Heap} {v : AV} {ll : List (List Int)} (H : LLI h v ll) (hs : HSub h h') : LLI h' v ll := by
 obtain ⟨vs, a, b, c⟩ := H
 exact ⟨vs, a.mono hs, b, fun i hi => (c i hi).mono hs⟩
theorem LLI.len {h : Heap} {v : AV} {ll : List (List Int)} (H : LLI h v ll) : lenA v = some (.int .i64 ll.length) := by obtain ⟨vs, a, _, _⟩ := H; exact a.len
theorem LLI.nil {h : Heap} : LLI h .nilslice [] := ⟨[], ⟨rfl, by decide, .inl ⟨rfl, rfl⟩⟩, rfl, fun i hi => by simp at hi⟩
theorem LLI.at {h : Heap} {v : AV} {ll : List (List Int)} (H : LLI h v ll) {i : Nat} (hi : i < ll.length) : ∃ w, idxA 1 v (.int .i64 (i : Nat)) = some (elA 1 v i) ∧ loadA h false 1 (elA 1 v i) = some w ∧ RI h w (ll.getD i []) := by
 obtain ⟨vs, a, b, c⟩ := H
 refine ⟨vs.getD i .nilslice, a.idx ⟨by omega, by omega⟩, ?_, c i hi⟩
 rw [SL.load1 a hi]
 simp [show i < vs.length by omega]
section
variable {C : Ctx}
def Two (h0 h : Heap) (v w : AV) (p : Int × Int) : Prop := ∃ j, h0.size ≤ j ∧ w = .slice j 0 2 (.known 2) ∧ h.get j = some (.cells [.int .i64 p.1, .int .i64 p.2] true 0) ∧ j ∉ v.ids
end
end Go.Ae
namespace Go.Ae
def tabE (d : Int) (ps : List Int) : Nat → Int
 | 0 => 0
 | k + 1 => if tabE d ps k ≠ 0 then tabE d ps k else if jap d (ps.getD k 0) ≠ 0 then 2 else if ((ps.take k).any fun y => ps.getD k 0 == y) = true then 8 else 0
def tabErr (d o : Int) (ps : List Int) : Int := if jak d o ≠ 0 then 2 else if ps.length = 0 then 3 else if 8 < ps.length then 4 else tabE d ps ps.length
theorem tabE_mono {d : Int} {ps : List Int} {k : Nat} (h : tabE d ps k ≠ 0) : ∀ m, tabE d ps (k + m) = tabE d ps k
 | 0 => rfl
 | m + 1 => by
  rw [← Nat.add_assoc, tabE, if_pos (by rw [tabE_mono h m]; exact h), tabE_mono h m]
theorem tabE_at {d : Int} {ps : List Int} {k n : Nat} (h : tabE d ps k ≠ 0) (hk : k ≤ n) : tabE d ps n = tabE d ps k := by
 have := tabE_mono h (n - k)
 rwa [show k + (n - k) = n by omega] at this
def tabRow (d : Int) (o : Nat) (ps : List Int) (i k : Nat) : List Int := (List.range k).map fun j => jct (sampL d (ps.getD i 0) o) (sampL d (ps.getD j 0) o) (if i = j then o else 0)
theorem tabRow_length (d : Int) (o : Nat) (ps : List Int) (i k : Nat) : (tabRow d o ps i k).length = k := by simp [tabRow]
theorem tabRow_succ (d : Int) (o : Nat) (ps : List Int) (i k : Nat) : tabRow d o ps i (k + 1) = tabRow d o ps i k ++ [jct (sampL d (ps.getD i 0) o) (sampL d (ps.getD k 0) o) (if i = k then o else 0)] := by simp [tabRow, List.range_succ]
def tblL (d : Int) (o : Nat) (ps : List Int) : List (List Int) := (List.range ps.length).map fun i => tabRow d o ps i ps.length
theorem Grw.move {h0 h F : Heap} {sz n : Nat} {w : AV} {ds : List AV} (B : Grw h0 h sz w n ds) (hs : HSub h0 F) (hg : ∀ x ∈ w.ids, F.get x = h.get x) : Grw h0 F sz w n ds := by
 obtain ⟨_, hl, hn, ⟨rfl, rfl⟩ | ⟨i, ex, hi, rfl, hgi⟩⟩ := B
 ·exact ⟨hs, hl, hn, .inl ⟨rfl, rfl⟩⟩
 ·exact ⟨hs, hl, hn, .inr ⟨i, ex, hi, rfl, (hg i (by simp [AV.ids])).trans hgi⟩⟩
section
variable {C : Ctx}
set_option maxHeartbeats 4000000 in
set_option maxRecDepth 20000 in
theorem jmj (hC : Has C T172) {d o : Int} {vp : AV} {ps : List Int} {h : Heap} (hd : In64 d) (ho : In64 o) (hp : RI h vp ps) (hx : ∀ x ∈ ps, In64 x) :
  ACalls C 172 [.int .i64 d, .int .i64 o, vp] h (fun r h' => ∃ v, r = jac v (tabErr d o ps) ∧ HSub h h' ∧ LLI h' v (if tabErr d o ps = 0 then tblL d o.toNat ps else [])) := by
 have hplt := hp.lt
 have fin : ∀ (h' : Heap) (e : Int), HSub h h' → tabErr d o ps = e → e ≠ 0 → ∃ v, AV.tuple [.nilslice, .int .i64 e] = jac v (tabErr d o ps) ∧ HSub h h' ∧ LLI h' v (if tabErr d o ps = 0 then tblL d o.toNat ps else []) := fun h' e hs he h0 => ⟨.nilslice, by rw [he]; rfl, hs, by rw [if_neg (by omega)]; exact LLI.nil⟩
 by_cases ck : jak d o = 0
 ·have kr : lenOk d = true ∧ 1 ≤ o ∧ o ≤ 8 := by
   unfold jak at ck
   split at ck
   ·assumption
   ·cases ck
  obtain ⟨q, rfl⟩ := Int.eq_ofNat_of_zero_le (show 0 ≤ o by omega)
  have hN := jaQ kr.1
  by_cases c0 : ps.length = 0
  ·have pe : tabErr d (q : Nat) ps = 3 := by unfold tabErr; rw [if_neg (by omega), if_pos c0]
   refine zf hC tab172 ?_; simp only [B172]; refine zs ?_
   refine jaa.eq (jbm (zu hC T150) hd ho) ?_
   rw [ck]
   refine zs1 @hp.len ?_
   exact fin _ _ (HSub.refl _) pe (by decide)
  by_cases c8 : 8 < ps.length
  ·have pe : tabErr d (q : Nat) ps = 4 := by unfold tabErr; rw [if_neg (by omega), if_neg c0, if_pos c8]
   refine zf hC tab172 ?_; simp only [B172]; refine zs ?_
   refine jaa.eq (jbm (zu hC T150) hd ho) ?_
   rw [ck]
   refine zs1 @hp.len ?_
   exact fin _ _ (HSub.refl _) pe (by decide)
  have pe : tabErr d (q : Nat) ps = tabE d ps ps.length := by unfold tabErr; rw [if_neg (by omega), if_neg c0, if_neg c8]
  rw [pe] at fin ⊢
  have fin2 : tabE d ps ps.length = 0 → ∀ (h' : Heap) (v : AV), HSub h h' → LLI h' v (tblL d q ps) → ∃ v', AV.tuple [v, .int .i64 0] = jac v' (tabE d ps ps.length) ∧ HSub h h' ∧ LLI h' v' (if tabE d ps ps.length = 0 then tblL d (q : Int).toNat ps else []) := fun he h' v hs hl => ⟨v, by rw [he]; rfl, hs, by rw [if_pos he]; exact hl⟩
  have hsd := fun (h : Heap) (i : Nat) (p : Int) (hp : In64 p) (hg : h.get i = some (.cells [.int .i64 p] true 0)) => jeh (zu hC T142) (vp := .slice i 0 1 (.known 1)) (ps := [p]) (h := h) hd ho (RI.known hg ⟨rfl, by decide⟩ (by decide)) (by simp [hp]) (by simp)
  refine zf hC tab172 ?_; simp only [B172]; refine zs ?_
  refine jaa.eq (jbm (zu hC T150) hd ho) ?_
  rw [ck]
  refine zs1 @hp.len ?_
  refine jab (fun j t h' => ∃ (k : Nat) (vs : List AV), Grw h h' 2 (t 9) k (ja4 vs (q : Nat)) ∧ vs.length = k ∧ (∀ i, i < k → GrwI h h' (vs.getD i .nilslice) (sampL d (ps.getD i 0) q) ∧ Dj (vs.getD i .nilslice) (t 9)) ∧ tabE d ps k = 0 ∧
   t 0 = .int .i64 d ∧ t 1 = .int .i64 (q : Nat) ∧ t 2 = vp ∧ t 34 = vp ∧ t 35 = .int .i64 (ps.length : Nat) ∧ t 36 = .int .i64 (k : Nat) ∧ k ≤ ps.length ∧ j = ps.length - k) (j0 := ps.length)
   ⟨0, [], Grw.nil _ _, rfl, fun i hi => by omega, rfl, rfl, rfl, rfl, rfl, rfl, rfl, by omega, rfl⟩ ?_
  rintro j t h2 ⟨k, vs, A, hvl, hvs, hte, e0, e1, e2, e34, e35, e36, hk, hj⟩
  refine zs2 @e35 @e36 ?_
  refine Br.by (fun c1 => ?_) (fun c1 => ?_)
  ·have hk' : k < ps.length := by omega
   have hp2 := hp.mono A.sub
   have hxk := hx _ (jal hk')
   have ts : tabE d ps (k + 1) = if jap d (ps.getD k 0) ≠ 0 then 2 else if ((ps.take k).any fun y => ps.getD k 0 == y) = true then 8 else 0 := by rw [tabE, if_neg (by omega)]
   have ld := hp2.load hk'
   have xp : ∃ p, p = ps.getD k 0 := ⟨_, rfl⟩
   obtain ⟨p, hpd⟩ := xp
   rw [← hpd] at ld ts hxk
   have se : jaj d (q : Nat) [p] = jap d p := by
    rw [jfU]
    rcases jel d p with c | c
    ·rw [if_pos ⟨ck, c⟩, c]
    ·rw [if_neg (by omega), c]
   have hsd := hsd (h2.push (.cells [.int .i64 p] true 0)) h2.size p hxk (jaf rfl)
   rw [se] at hsd
   by_cases cc : jap d p = 0
   ·rw [if_neg (by omega)] at ts
    simp only [cc] at hsd
    refine zs6 @e0 @e1 @e34 @e36 @hp2.idx @ld ?_
    refine jaa.of hsd ?_
    rintro r h3 ⟨v, ws, rfl, s1, hcl⟩
    have s2 : HSub h2 h3 := (HSub.push1 _ _).trans s1
    have x0 := hcl trivial
    obtain ⟨cl, gw⟩ := x0
    have xw : ∃ w, ws = [w] := by
     have := cl.len
     match ws, this with
     | [w], _ => exact ⟨w, rfl⟩
    obtain ⟨w, rfl⟩ := xw
    have B : GrwI (h2.push (.cells [.int .i64 p] true 0)) h3 w (sampL d p q) := gw 0 (by simp)
    have hp3 := hp.mono (A.sub.trans s2)
    have xs := hp3.part_b (k2 := .i64) (b := (k : Nat)) (by omega)
    obtain ⟨v', ev, Rv⟩ := xs
    have ev := ev h3 (HSub.refl _)
    rw [Int.toNat_natCast] at Rv
    have hcn := jbs (zu hC T89) (x := p) Rv
    refine zs3 @jac.eq_1 @e2 @ev ?_
    by_cases c3 : ((ps.take k).any fun y => p == y) = true
    ·rw [if_pos c3] at ts
     rw [c3] at hcn
     refine jaa.eq hcn ?_
     refine zs ?_
     exact fin _ _ (A.sub.trans s2) ((tabE_at (by rw [ts]; decide) (by omega)).trans ts) (by decide)
    ·rw [if_neg c3] at ts
     rw [Bool.eq_false_iff.2 c3] at hcn
     refine jaa.eq hcn ?_
     have cw := cl.sl.content
     rw [show ([p] : List Int).length = 1 from rfl, show ja4 [w] (q : Nat) = [w, .int .i64 (q : Nat)] from rfl] at cw
     have wone : w.one = true := (Grw.sl B).one
     have hn1 : [w, AV.int .i64 (q : Nat)].all AV.one = true := by simp [wone, jny]
     have ap := Grw.app A (bytes := 32) (m := 1) (news := [w, .int .i64 (q : Nat)]) s2 (by decide) (by omega) hn1
     have A5 := Grw.snoc A (m := 1) (news := [w, .int .i64 (q : Nat)]) s2 rfl (by omega)
     rw [← jdr] at ap A5
     refine zs8 @cw @ap @e0 @e1 @e2 @e34 @e35 @e36 ?_
     have A4 := A.mono s2
     have B0 : GrwI h h3 w (sampL d p q) := B.base (A.sub.trans (HSub.push1 _ _))
     have dw : Dj w (t 9) := fun j hj hj9 => by
      have q1 := (Grw.ids_lt B j hj).1
      have q2 := (Grw.ids_lt A j hj9).2
      simp only [Heap.size_push] at q1
      omega
     refine ⟨_, ⟨k + 1, vs ++ [w], A5, by simp [hvl], fun i hi => ?_, ts, by simp, by omega, rfl⟩, by omega⟩
     rcases Nat.lt_or_ge i k with x | x
     ·have e : (vs ++ [w]).getD i .nilslice = vs.getD i .nilslice := by simp [List.getD_eq_getElem?_getD, List.getElem?_append_left (show i < vs.length by omega)]
      rw [e]
      have B1 := (hvs i x).1.mono s2
      exact ⟨Grw.keep A4 B1 (HSub.refl _) (hvs i x).2, Grw.dj B1 (Nat.le_refl _)⟩
     ·have ei : i = k := by omega
      subst ei
      have e : (vs ++ [w]).getD i .nilslice = w := by simp [List.getD_eq_getElem?_getD, ← hvl]
      rw [e, ← hpd]
      exact ⟨Grw.keep A4 B0 (HSub.refl _) dw, Grw.dj B0 (Nat.le_refl _)⟩
   ·have c2 : jap d p = 2 := by rcases jel d p with c | c <;> first | exact absurd c cc | exact c
    rw [if_pos (by omega)] at ts
    simp only [c2] at hsd
    refine zs6 @e0 @e1 @e34 @e36 @hp2.idx @ld ?_
    refine jaa.of hsd ?_
    rintro r h3 ⟨v, ws, rfl, s1, hcl⟩
    have s2 : HSub h2 h3 := (HSub.push1 _ _).trans s1
    refine zs1 @jac.eq_1 ?_
    exact fin _ _ (A.sub.trans s2) ((tabE_at (by rw [ts]; decide) (by omega)).trans ts) (by decide)
  ·have ek : k = ps.length := by omega
   subst ek
   have fin3 := fin2 hte
   have lA := A.sl
   have hzA := A.sub.size
   have RV : ∀ i, i < ps.length → RI h2 (vs.getD i .nilslice) (sampL d (ps.getD i 0) q) := fun i hi => (hvs i hi).1.ri
   have hL8 : ps.length ≤ 8 := by omega
   have sz : ∀ i, (sampL d (ps.getD i 0) q).length = lenN d * q := fun i => jaF _ _ _
   have sz1 : lenN d ≤ lenN d * q := Nat.le_mul_of_pos_right _ (by omega)
   have sz2 : lenN d * q ≤ 1023 * 8 := Nat.mul_le_mul (by omega) (by omega)
   have lenA9 := lA.len
   have xlv : ∃ lv, lv = t 9 := ⟨_, rfl⟩
   obtain ⟨lv, hlv⟩ := xlv
   rw [← hlv] at lA lenA9
   have e9 : t 9 = lv := hlv.symm
   refine zs2 @e9 @lenA9 ?_
   refine jab (fun j t h' => ∃ (i : Nat) (rows : List AV), h'.get h2.size = some (.cells rows true 0) ∧ rows.length = ps.length ∧ HSub h2 h' ∧ h2.size < h'.size ∧ (∀ j, j < i → GrwI h2 h' (rows.getD j .nilslice) (tabRow d q ps j ps.length) ∧ h2.size ∉ (rows.getD j .nilslice).ids) ∧ (∀ j, i ≤ j → j < ps.length → rows[j]? = some .nilslice) ∧
    t 1 = .int .i64 (q : Nat) ∧ t 9 = lv ∧ t 14 = .slice h2.size 0 ps.length (.known ps.length) ∧ t 64 = lv ∧ t 65 = .int .i64 (ps.length : Nat) ∧ t 66 = .int .i64 (i : Nat) ∧ i ≤ ps.length ∧ j = ps.length - i) (j0 := ps.length)
    ⟨0, List.replicate ps.length .nilslice, jaf rfl, by simp, HSub.push1 _ _, by simp, fun j hj => by omega, fun j _ hj => by simp [hj], e1, e9, rfl, rfl, rfl, rfl, by omega, rfl⟩ ?_
   rintro j t h4 ⟨i, rows, gO, hrl, s4, z4, hrow, hnil, e1, e9, e14, e64, e65, e66, hi, hj⟩
   refine zs2 @e65 @e66 ?_
   refine Br.by (fun c2 => ?_) (fun c2 => ?_)
   ·have hi' : i < ps.length := by omega
    have ixi : idxA 2 lv (.int .i64 (i : Nat)) = some (elA 2 lv i) := lA.idx ⟨by omega, by omega⟩
    have ldi := (lA.mono s4).loadA hi'
    rw [jcL (q : Nat) vs i (by omega)] at ldi
    have xwi : ∃ wi, wi = vs.getD i .nilslice := ⟨_, rfl⟩
    obtain ⟨wi, hwi⟩ := xwi
    have Ri := RV i hi'
    rw [← hwi] at ldi Ri
    have one := Ri.one
    refine zs7 @e1 @e9 @e64 @e66 @ixi @ldi @lenA9 ?_
    have gO5 : (h4.push (.cells [wi, .int .i64 (q : Nat)] true 0)).get h2.size = some (.cells rows true 0) := (jai z4).trans gO
    refine jab (fun j t h' => ∃ (k : Nat) (rws : List AV), h'.get h2.size = some (.cells rws true 0) ∧ rws.length = ps.length ∧ HSub h2 h' ∧ h4.size < h'.size ∧ h'.get h4.size = some (.cells [wi, .int .i64 (q : Nat)] true 0) ∧ h4.size ∉ (rws.getD i .nilslice).ids ∧
     (∀ j, j < i → GrwI h2 h' (rws.getD j .nilslice) (tabRow d q ps j ps.length) ∧ h2.size ∉ (rws.getD j .nilslice).ids ∧ Dj (rws.getD j .nilslice) (rws.getD i .nilslice)) ∧ GrwI h2 h' (rws.getD i .nilslice) (tabRow d q ps i k) ∧ h2.size ∉ (rws.getD i .nilslice).ids ∧ (∀ j, i < j → j < ps.length → rws[j]? = some .nilslice) ∧
     t 1 = .int .i64 (q : Nat) ∧ t 9 = lv ∧ t 14 = .slice h2.size 0 ps.length (.known ps.length) ∧ t 15 = .int .i64 (i : Nat) ∧ t 16 = .ptr h4.size 0 ∧ t 64 = lv ∧ t 65 = .int .i64 (ps.length : Nat) ∧ t 66 = .int .i64 (i : Nat) ∧ t 71 = lv ∧ t 72 = .int .i64 (ps.length : Nat) ∧ t 73 = .int .i64 (k : Nat) ∧ k ≤ ps.length ∧ j = ps.length - k) (j0 := ps.length)
     ⟨0, rows, gO5, hrl, s4.push _, by simp, jaf rfl, ?_, ?_, ?_, ?_, ?_, e1, e9, e14, rfl, rfl, e64, e65, e66, rfl, rfl, rfl, by omega, rfl⟩ ?_
    ·have := hnil i (Nat.le_refl _) hi'
     rw [List.getD_eq_getElem?_getD, this]; simp [AV.ids]
    ·intro j hj
     have hni := hnil i (Nat.le_refl _) hi'
     refine ⟨(hrow j hj).1.mono (HSub.push1 _ _), (hrow j hj).2, ?_⟩
     rw [List.getD_eq_getElem?_getD (i := i), hni]
     exact Dj.nilR
    ·have hni := hnil i (Nat.le_refl _) hi'
     rw [List.getD_eq_getElem?_getD (i := i), hni]
     exact GrwI.nil' (s4.push _)
    ·have hni := hnil i (Nat.le_refl _) hi'
     rw [List.getD_eq_getElem?_getD (i := i), hni]
     simp [AV.ids]
    ·intro j hj hj2
     exact hnil j (by omega) hj2
    rintro j t h5 ⟨k, rws, gO, hrl, s5, z5, g16, n16, hrow, hri, nri, hnil, e1, e9, e14, e15, e16, e64, e65, e66, e71, e72, e73, hk, hj⟩
    refine zs2 @e72 @e73 ?_
    refine Br.by (fun c3 => ?_) (fun c3 => ?_)
    ·have hk' : k < ps.length := by omega
     have ixk : idxA 2 lv (.int .i64 (k : Nat)) = some (elA 2 lv k) := lA.idx ⟨by omega, by omega⟩
     have ldk := (lA.mono s5).loadA hk'
     rw [jcL (q : Nat) vs k (by omega)] at ldk
     have xwk : ∃ wk, wk = vs.getD k .nilslice := ⟨_, rfl⟩
     obtain ⟨wk, hwk⟩ := xwk
     have Rk := RV k hk'
     rw [← hwk] at ldk Rk
     have onek := Rk.one
     have xr : ∃ ri, ri = rws.getD i .nilslice := ⟨_, rfl⟩
     obtain ⟨ri, hrid⟩ := xr
     rw [← hrid] at hri nri n16
     have rget : rws[i]? = some ri := by rw [hrid]; simp [List.getD_eq_getElem?_getD, show i < rws.length by omega]
     by_cases cik : i = k
     ·subst cik
      have sx := tabRow_succ d q ps i i
      rw [if_pos rfl] at sx
      have sl := tabRow_length d q ps i i
      refine zs11 @e1 @e14 @e15 @e16 @e71 @e73 @ixk @ldk @gO @rget @g16 ?_
      refine jaa.hide (fun H hH => ?_)
      have N : H.size = h5.size + 15 := by rw [hH]; exact ze
      have gH : ∀ j, j < h5.size → H.get j = h5.get j := by
       intro j hj
       rw [hH, Heap.get_reserve, jai hj]
      have gN : ∀ j, h5.size + 1 ≤ j → H.get j = none := by
       intro j hj
       rw [hH, Heap.get_reserve]
       exact Heap.wf _ j (by simpa using hj)
      have hs5 : HSub h5 H := ⟨by omega, gH⟩
      clear hH
      have gO6 := (gH _ (by omega)).trans gO
      have gp := jgP (zu hC T183) (o1 := (q : Nat)) (o2 := (q : Nat)) (mg := q) (h := H) (Ri.mono (s5.trans hs5)) (Rk.mono (s5.trans hs5)) (jay _ _ _) (jay _ _ _) ⟨by simp only [sz], by rw [sz]; omega, by rw [sz]; omega⟩ (by omega)
      refine jaa.eq gp ?_
      have ap := fun b => Grw.appG (H := H.put (h5.size + 1 + 10) b) (k := h5.size + 1 + 11) (m := 1) (bytes := 8) (news := [.int .i64 (jct (sampL d (ps.getD i 0) q) (sampL d (ps.getD i 0) q) q)]) hri (fun j hj => by rw [jae (by have := (Grw.ids_lt hri j hj).2; omega)]; exact gH j (Grw.ids_lt hri j hj).2) ⟨by omega, by simp only [Heap.size_put]; omega⟩ (by decide) (by omega) (by rfl)
      rw [jbV, ← sx, sl] at ap
      have g10 := gN (h5.size + 1 + 10) (by omega)
      have g11 := gN (h5.size + 1 + 11) (by omega)
      refine zs7 @g10 @g11 @jba @jbZ @ap @jfN @e14 ?_
      refine ⟨gH _ (by omega), ?_⟩
      have gF := fun b => (jeg (H := H.put (h5.size + 1 + 10) b) (k := h5.size + 1 + 11) (v := ri) (sz := 1) (cs := ints (tabRow d q ps i (i + 1))) (j := h2.size) (by omega) nri).trans ((jae (by omega)).trans gO6)
      have zF := fun b => jeN (H := H.put (h5.size + 1 + 10) b) (k := h5.size + 1 + 11) (v := ri) (sz := 1) (cs := ints (tabRow d q ps i (i + 1)))
      have rF := fun b => jeO (H := H.put (h5.size + 1 + 10) b) (k := h5.size + 1 + 11) (v := ri) (sz := 1) (cs := ints (tabRow d q ps i (i + 1))) (by simp only [Heap.size_put]; omega)
      have bF := fun b => jfT (H := H.put (h5.size + 1 + 10) b) (k := h5.size + 1 + 11) (ds := ints (tabRow d q ps i (i + 1))) hri ((s5.trans hs5).put (by omega) b) (by omega)
      have oF := fun b (j : Nat) (hj : j < h5.size) (hv : j ∉ ri.ids) => (jeg (H := H.put (h5.size + 1 + 10) b) (k := h5.size + 1 + 11) (v := ri) (sz := 1) (cs := ints (tabRow d q ps i (i + 1))) (j := j) (by omega) hv).trans ((jae (by omega)).trans (gH j hj))
      simp only [Heap.size_put] at zF
      refine zs12 @gF @e15 @e1 @e9 @e14 @e16 @e64 @e65 @e66 @e71 @e72 @e73 ?_
      have nw : ∀ j, j < i → (rws.set i (.slice (h5.size + 1 + 11) 0 (i + 1) (.unk 0))).getD j .nilslice = rws.getD j .nilslice := fun j hj => by simp [List.getD_eq_getElem?_getD, List.getElem?_set, show ¬ i = j by omega]
      have ne' : (rws.set i (.slice (h5.size + 1 + 11) 0 (i + 1) (.unk 0))).getD i .nilslice = .slice (h5.size + 1 + 11) 0 (i + 1) (.unk 0) := by simp [List.getD_eq_getElem?_getD, List.getElem?_set, show i < rws.length by omega]
      refine ⟨_, ⟨i + 1, rws.set i (.slice (h5.size + 1 + 11) 0 (i + 1) (.unk 0)), jaP rfl (by rw [zF]; omega), by simp [hrl], (bF _).put (Nat.le_refl _) _, by rw [zF]; omega, (oF _ _ z5 n16).trans g16, by rw [ne']; simp only [AV.ids, List.mem_singleton]; omega, fun j hj => ?_, ?_, by rw [ne']; simp only [AV.ids, List.mem_singleton]; omega, fun j hj hj2 => ?_, by simp, by omega, rfl⟩, by omega⟩
      ·rw [nw j hj, ne']
       obtain ⟨B, nb, dj⟩ := hrow j hj
       rw [← hrid] at dj
       refine ⟨Grw.move B ((bF _).put (Nat.le_refl _) _) (fun x hx => ?_), nb, fun x hx hy => ?_⟩
       ·have xl := (Grw.ids_lt B x hx).2
        exact (jae (fun (e : x = h2.size) => nb (by rw [← e]; exact hx))).trans (oF _ x xl (dj x hx))
       ·have xl := (Grw.ids_lt B x hx).2
        simp only [AV.ids, List.mem_singleton] at hy
        omega
      ·rw [ne']
       exact jjV ((bF _).put (Nat.le_refl _) _) (by omega) ⟨(tabRow_length _ _ _ _ _).symm, by rw [tabRow_length]; omega⟩ ((jae (by omega)).trans (rF _))
      ·rw [List.getElem?_set, if_neg (by omega)]
       exact hnil j hj hj2
     ·have cik' : ¬ ((i : Nat) : Int) = (k : Nat) := by omega
      have sx := tabRow_succ d q ps i k
      rw [if_neg cik] at sx
      have sl := tabRow_length d q ps i k
      refine zs11 @e1 @e14 @e15 @e16 @e71 @e73 @ixk @ldk @gO @rget @g16 ?_
      refine jaa.hide (fun H hH => ?_)
      have N : H.size = h5.size + 15 := by rw [hH]; exact ze
      have gH : ∀ j, j < h5.size → H.get j = h5.get j := by
       intro j hj
       rw [hH, Heap.get_reserve, jai hj]
      have gN : ∀ j, h5.size + 1 ≤ j → H.get j = none := by
       intro j hj
       rw [hH, Heap.get_reserve]
       exact Heap.wf _ j (by simpa using hj)
      have hs5 : HSub h5 H := ⟨by omega, gH⟩
      clear hH
      have gO6 := (gH _ (by omega)).trans gO
      have gp := jgP (zu hC T183) (o1 := (q : Nat)) (o2 := (q : Nat)) (mg := 0) (h := H) (Ri.mono (s5.trans hs5)) (Rk.mono (s5.trans hs5)) (jay _ _ _) (jay _ _ _) ⟨by simp only [sz], by rw [sz]; omega, by rw [sz]; omega⟩ (by omega)
      refine jaa.eq gp ?_
      have ap := fun b => Grw.appG (H := H.put (h5.size + 1 + 10) b) (k := h5.size + 1 + 11) (m := 1) (bytes := 8) (news := [.int .i64 (jct (sampL d (ps.getD i 0) q) (sampL d (ps.getD k 0) q) 0)]) hri (fun j hj => by rw [jae (by have := (Grw.ids_lt hri j hj).2; omega)]; exact gH j (Grw.ids_lt hri j hj).2) ⟨by omega, by simp only [Heap.size_put]; omega⟩ (by decide) (by omega) (by rfl)
      rw [jbV, ← sx, sl] at ap
      have g10 := gN (h5.size + 1 + 10) (by omega)
      have g11 := gN (h5.size + 1 + 11) (by omega)
      refine zs7 @g10 @g11 @jba @jbZ @ap @jfN @e14 ?_
      refine ⟨gH _ (by omega), ?_⟩
      have gF := fun b => (jeg (H := H.put (h5.size + 1 + 10) b) (k := h5.size + 1 + 11) (v := ri) (sz := 1) (cs := ints (tabRow d q ps i (k + 1))) (j := h2.size) (by omega) nri).trans ((jae (by omega)).trans gO6)
      have zF := fun b => jeN (H := H.put (h5.size + 1 + 10) b) (k := h5.size + 1 + 11) (v := ri) (sz := 1) (cs := ints (tabRow d q ps i (k + 1)))
      have rF := fun b => jeO (H := H.put (h5.size + 1 + 10) b) (k := h5.size + 1 + 11) (v := ri) (sz := 1) (cs := ints (tabRow d q ps i (k + 1))) (by simp only [Heap.size_put]; omega)
      have bF := fun b => jfT (H := H.put (h5.size + 1 + 10) b) (k := h5.size + 1 + 11) (ds := ints (tabRow d q ps i (k + 1))) hri ((s5.trans hs5).put (by omega) b) (by omega)
      have oF := fun b (j : Nat) (hj : j < h5.size) (hv : j ∉ ri.ids) => (jeg (H := H.put (h5.size + 1 + 10) b) (k := h5.size + 1 + 11) (v := ri) (sz := 1) (cs := ints (tabRow d q ps i (k + 1))) (j := j) (by omega) hv).trans ((jae (by omega)).trans (gH j hj))
      simp only [Heap.size_put] at zF
      refine zs12 @gF @e15 @e1 @e9 @e14 @e16 @e64 @e65 @e66 @e71 @e72 @e73 ?_
      have nw : ∀ j, j < i → (rws.set i (.slice (h5.size + 1 + 11) 0 (k + 1) (.unk 0))).getD j .nilslice = rws.getD j .nilslice := fun j hj => by simp [List.getD_eq_getElem?_getD, List.getElem?_set, show ¬ i = j by omega]
      have ne' : (rws.set i (.slice (h5.size + 1 + 11) 0 (k + 1) (.unk 0))).getD i .nilslice = .slice (h5.size + 1 + 11) 0 (k + 1) (.unk 0) := by simp [List.getD_eq_getElem?_getD, List.getElem?_set, show i < rws.length by omega]
      refine ⟨_, ⟨k + 1, rws.set i (.slice (h5.size + 1 + 11) 0 (k + 1) (.unk 0)), jaP rfl (by rw [zF]; omega), by simp [hrl], (bF _).put (Nat.le_refl _) _, by rw [zF]; omega, (oF _ _ z5 n16).trans g16, by rw [ne']; simp only [AV.ids, List.mem_singleton]; omega, fun j hj => ?_, ?_, by rw [ne']; simp only [AV.ids, List.mem_singleton]; omega, fun j hj hj2 => ?_, by simp, by omega, rfl⟩, by omega⟩
      ·rw [nw j hj, ne']
       obtain ⟨B, nb, dj⟩ := hrow j hj
       rw [← hrid] at dj
       refine ⟨Grw.move B ((bF _).put (Nat.le_refl _) _) (fun x hx => ?_), nb, fun x hx hy => ?_⟩
       ·have xl := (Grw.ids_lt B x hx).2
        exact (jae (fun (e : x = h2.size) => nb (by rw [← e]; exact hx))).trans (oF _ x xl (dj x hx))
       ·have xl := (Grw.ids_lt B x hx).2
        simp only [AV.ids, List.mem_singleton] at hy
        omega
      ·rw [ne']
       exact jjV ((bF _).put (Nat.le_refl _) _) (by omega) ⟨(tabRow_length _ _ _ _ _).symm, by rw [tabRow_length]; omega⟩ ((jae (by omega)).trans (rF _))
      ·rw [List.getElem?_set, if_neg (by omega)]
       exact hnil j hj hj2
    ·have ek : k = ps.length := by omega
     subst ek
     refine zs6 @e1 @e9 @e14 @e64 @e65 @e66 ?_
     refine ⟨_, ⟨i + 1, rws, gO, hrl, s5, by omega, fun j hj => ?_, fun j hj hj2 => hnil j (by omega) hj2, by simp, by omega, rfl⟩, by omega⟩
     rcases Nat.lt_or_ge j i with x | x
     ·exact ⟨(hrow j x).1, (hrow j x).2.1⟩
     ·have : j = i := by omega
      subst this
      exact ⟨hri, nri⟩
   ·have ei : i = ps.length := by omega
    subst ei
    have tl : (tblL d q ps).length = ps.length := by simp [tblL]
    refine zs1 @e14 ?_
    refine fin3 _ _ (A.sub.trans s4) ⟨rows, ⟨by rw [tl, Nat.mul_one]; exact hrl, by rw [tl]; omega, .inr ⟨h2.size, 0, .known ps.length, rows, true, 0, by rw [tl], gO, by rw [tl]; omega, by rw [tl]; exact jhk (by omega), by rw [tl]; exact Nat.le_refl _⟩⟩, by rw [tl]; exact hrl, fun j hj => ?_⟩
    have hj' : j < ps.length := by simpa [tblL] using hj
    have e : (tblL d q ps).getD j [] = tabRow d q ps j ps.length := by simp [tblL, hj']
    rw [e]
    exact (hrow j hj').1.ri
 ·have pe : tabErr d o ps = 2 := by unfold tabErr; rw [if_pos ck]
  have ck2 : jak d o = 2 := by unfold jak at ck ⊢; split at ck <;> first | exact absurd rfl ck | (rename_i h; rw [if_neg h])
  refine zf hC tab172 ?_; simp only [B172]; refine zs ?_
  refine jaa.eq (jbm (zu hC T150) hd ho) ?_
  rw [ck2]
  refine zs ?_
  exact fin _ _ (HSub.refl _) pe (by decide)
end
end Go.Ae
namespace Go.Ae
def lookB (ks : AKey) (z : AV) (comma : Bool) (k : AV) : Option ABlk → Option AV
 | some (.map es) => if (keyEq ks k k).isSome = true then (findA ks k es 0).map (giveA z comma) else none
 | _ => none
def updB (h : Heap) (i : Nat) (ks : AKey) (k v : AV) : Option ABlk → Option Heap
 | some (.map es) => if (keyEq ks k k).isSome = true then (setA ks k v es).map fun es' => h.put i (.map es') else none
 | _ => none
def jdQ (nid : Option Nat) (h : Heap) : Option (AV × Heap) := if h.room nid = true then some (.map (h.nid nid), h.new nid (.map [])) else none
theorem jmk {nid : Option Nat} {ev : AOpd → AV} {h : Heap} {K : AV → Heap → Prop} {ks : AKey} {z : AV} {comma : Bool} {m k : AOpd} : @opR nid (.lookup ks z comma m k) ev h ⟨K⟩ = @opt1 (lookA h ks z comma (ev m) (ev k)) h ⟨K⟩ := by
 simp only [opR, aOp, pureA, opt1]; cases lookA h ks z comma (ev m) (ev k) <;> rfl
theorem jml {nid : Option Nat} {ev : AOpd → AV} {h : Heap} {K : AV → Heap → Prop} {ks : AKey} {m k v : AOpd} : @opR nid (.mapUpd ks m k v) ev h ⟨K⟩ = @opt2 (storeOA (jbU h ks (ev m) (ev k) (ev v))) ⟨K⟩ := by
 simp only [opR, aOp, opt2]; cases jbU h ks (ev m) (ev k) (ev v) <;> rfl
theorem jkl {nid : Option Nat} {ev : AOpd → AV} {h : Heap} {K : AV → Heap → Prop} : @opR nid .makeMap ev h ⟨K⟩ = @opt2 (jdQ nid h) ⟨K⟩ := by
 simp only [opR, aOp, opt2, jdQ]; split <;> simp_all
theorem jkm {n : Nat} {h : Heap} : jdQ (some n) h = kept n h (h.get n) (fun n _ p => some (.map n, p (.map []))) := by
 simp only [jdQ, jd8, kept]
 cases hg : h.get n with
 | none => by_cases hn : n < h.size <;> simp [hn, Heap.nid, Heap.new]
 | some b => simp
theorem jp2 {h : Heap} {ks : AKey} {z : AV} {comma : Bool} {i : Nat} {k : AV} : lookA h ks z comma (.map i) k = lookB ks z comma k (h.get i) := by
 unfold lookA lookB; dsimp only; cases h.get i with
 | none => rfl
 | some b => cases b <;> rfl
theorem jrD {h : Heap} {ks : AKey} {i : Nat} {k v : AV} : jbU h ks (.map i) k v = updB h i ks k v (h.get i) := by
 unfold jbU updB; dsimp only; cases h.get i with
 | none => rfl
 | some b => cases b <;> rfl
theorem wpMap :
  (∀ {ks : AKey} {z : AV} {c : Bool} {m k : AOpd} {ev : AOpd → AV} {n : Nat}, footA (.lookup ks z c m k) ev n = (ev m).ids) ∧
  (∀ {ks : AKey} {z : AV} {c : Bool} {m k : AOpd} {ev : AOpd → AV} {n : Nat}, wrA (.lookup ks z c m k) ev n = []) ∧
  (∀ {ks : AKey} {m k v : AOpd} {ev : AOpd → AV} {n : Nat}, footA (.mapUpd ks m k v) ev n = (ev m).ids) ∧
  (∀ {ks : AKey} {m k v : AOpd} {ev : AOpd → AV} {n : Nat}, wrA (.mapUpd ks m k v) ev n = (ev m).ids) ∧
  (∀ {ev : AOpd → AV} {n : Nat}, footA .makeMap ev n = [n]) ∧ (∀ {ev : AOpd → AV} {n : Nat}, wrA .makeMap ev n = [n]) ∧
  (∀ {i : Nat}, AV.ids (.map i) = [i]) ∧ (∀ {i : Nat}, AV.cells (.map i) = [.map i]) ∧ (AV.cells .nilmap = [.nilmap]) ∧
  (∀ {i : Nat}, AV.one (.map i) = true) ∧ (AV.one .nilmap = true) ∧
  (∀ {nid : Option Nat} {ev : AOpd → AV} {h : Heap} {K : AV → Heap → Prop} {ks : AKey} {z : AV} {comma : Bool} {m k : AOpd}, @opR nid (.lookup ks z comma m k) ev h ⟨K⟩ = @opt1 (lookA h ks z comma (ev m) (ev k)) h ⟨K⟩) ∧
  (∀ {nid : Option Nat} {ev : AOpd → AV} {h : Heap} {K : AV → Heap → Prop} {ks : AKey} {m k v : AOpd}, @opR nid (.mapUpd ks m k v) ev h ⟨K⟩ = @opt2 (storeOA (jbU h ks (ev m) (ev k) (ev v))) ⟨K⟩) ∧
  (∀ {nid : Option Nat} {ev : AOpd → AV} {h : Heap} {K : AV → Heap → Prop}, @opR nid .makeMap ev h ⟨K⟩ = @opt2 (jdQ nid h) ⟨K⟩) ∧
  (∀ {h : Heap}, jdQ none h = some (.map h.size, h.push (.map []))) ∧
  (∀ {n : Nat} {h : Heap}, jdQ (some n) h = kept n h (h.get n) (fun n _ p => some (.map n, p (.map [])))) ∧
  (∀ {h : Heap} {ks : AKey} {z : AV} {comma : Bool} {i : Nat} {k : AV}, lookA h ks z comma (.map i) k = lookB ks z comma k (h.get i)) ∧
  (∀ {h : Heap} {ks : AKey} {i : Nat} {k v : AV}, jbU h ks (.map i) k v = updB h i ks k v (h.get i)) ∧
  (∀ {z : List AV} {o i : Nat} {rest : List (Nat × Nat × AV)}, o < z.length → fillA z ((o, 1, .map i) :: rest) = fillA (z.set o (.map i)) rest) ∧
  (∀ {z : List AV} {o : Nat} {rest : List (Nat × Nat × AV)}, o < z.length → fillA z ((o, 1, .nilmap) :: rest) = fillA (z.set o .nilmap) rest) :=
 ⟨rfl, rfl, rfl, rfl, rfl, rfl, rfl, rfl, rfl, rfl, rfl, jmk, jml, jkl, rfl, jkm, jp2, jrD, fun ho => jbO rfl ho, fun ho => jbO rfl ho⟩
def gErr (b s : Int) : Int := if 2 ≤ b ∧ b ≤ 8 ∧ 0 ≤ s ∧ s ≤ 30 then 0 else 2
def gA (b s : Int) : AV := .agg [.int .i64 b, .int .i64 s]
def coarI (s : Int) : Int := 2 ^ s.toNat / 2
theorem jbJ {b s : Int} (h : gErr b s = 0) : 2 ≤ b ∧ b ≤ 8 ∧ 0 ≤ s ∧ s ≤ 30 := by
 unfold gErr at h
 split at h
 ·assumption
 ·cases h
theorem jeU (b s : Int) : gErr b s = 0 ∨ gErr b s = 2 := by unfold gErr; split <;> simp
theorem jf4 {s : Int} (h : 0 ≤ s ∧ s ≤ 30) : 1 ≤ (2 : Int) ^ s.toNat ∧ (2 : Int) ^ s.toNat ≤ 1073741824 := by
 obtain ⟨k, rfl⟩ := Int.eq_ofNat_of_zero_le h.1
 rw [Int.toNat_natCast]
 have e : (2 : Int) ^ k = ((2 ^ k : Nat) : Int) := by rw [Int.natCast_pow]; rfl
 have h1 : (2 : Nat) ^ k ≤ 2 ^ 30 := Nat.pow_le_pow_right (by decide) (by omega)
 have h2 : 1 ≤ (2 : Nat) ^ k := Nat.one_le_two_pow
 have h3 : (2 : Nat) ^ 30 = 1073741824 := by decide
 rw [e]
 generalize (2 : Nat) ^ k = q at *
 omega
section
variable {C : Ctx}
theorem jdR (hC : Has C T357) {b s : Int} {h : Heap} : ACalls C 357 [gA b s] h (fun r h' => r = .int .i64 (gErr b s) ∧ h' = h) := by
 refine ACalls.gc0 (P := fun r h' => r = .int .i64 (gErr b s) ∧ HSub h h') ?_ (fun r h' hp => ⟨by rw [hp.1]; trivial, hp.2, hp.1, rfl⟩)
 unfold gErr gA
 by_cases c1 : b < 2
 ·rw [if_neg (by omega)]
  refine zf hC tab357 ?_; simp only [B357]; refine zs2 @c1 @gV_u ?_
  exact HSub.push1 _ _
 by_cases c2 : 8 < b
 ·rw [if_neg (by omega)]
  refine zf hC tab357 ?_; simp only [B357]; refine zs3 @c1 @c2 @gV_u ?_
  exact HSub.push1 _ _
 by_cases c3 : s < 0
 ·rw [if_neg (by omega)]
  refine zf hC tab357 ?_; simp only [B357]; refine zs4 @c1 @c2 @c3 @gV_u ?_
  exact HSub.push1 _ _
 by_cases c4 : 30 < s
 ·rw [if_neg (by omega)]
  refine zf hC tab357 ?_; simp only [B357]; refine zs5 @c1 @c2 @c3 @c4 @gV_u ?_
  exact HSub.push1 _ _
 rw [if_pos (by omega)]
 refine zf hC tab357 ?_; simp only [B357]; refine zs5 @c1 @c2 @c3 @c4 @gV_u ?_
 exact HSub.push1 _ _
theorem jdS (hC : Has C T352) {b s : Int} {h : Heap} : ACalls C 352 [gA b s] h (fun r h' => r = .int .i64 (gErr b s) ∧ h' = h) := by
 refine ACalls.gc0 (P := fun r h' => r = .int .i64 (gErr b s) ∧ HSub h h') ?_ (fun r h' hp => ⟨by rw [hp.1]; trivial, hp.2, hp.1, rfl⟩)
 unfold gErr gA
 by_cases c1 : b < 2
 ·rw [if_neg (by omega)]
  refine zf hC tab352 ?_; simp only [B352]; refine zs2 @c1 @gV_u ?_
  exact HSub.push1 _ _
 by_cases c2 : 8 < b
 ·rw [if_neg (by omega)]
  refine zf hC tab352 ?_; simp only [B352]; refine zs3 @c1 @c2 @gV_u ?_
  exact HSub.push1 _ _
 by_cases c3 : s < 0
 ·rw [if_neg (by omega)]
  refine zf hC tab352 ?_; simp only [B352]; refine zs4 @c1 @c2 @c3 @gV_u ?_
  exact HSub.push1 _ _
 by_cases c4 : 30 < s
 ·rw [if_neg (by omega)]
  refine zf hC tab352 ?_; simp only [B352]; refine zs5 @c1 @c2 @c3 @c4 @gV_u ?_
  exact HSub.push1 _ _
 rw [if_pos (by omega)]
 refine zf hC tab352 ?_; simp only [B352]; refine zs5 @c1 @c2 @c3 @c4 @gV_u ?_
 exact HSub.push1 _ _
def coarE (b s : Int) : AV := if gErr b s = 0 then tup2 (coarI s) 0 else tup2 0 2
theorem jiW (hC : Has C T351) {b s : Int} {h : Heap} : ACalls C 351 [gA b s] h (fun r h' => r = coarE b s ∧ h' = h) := by
 refine ACalls.gc0 (P := fun r h' => r = coarE b s ∧ HSub h h') ?_ (fun r h' hp => ⟨by rw [hp.1]; unfold coarE tup2; split <;> exact ⟨trivial, trivial, trivial⟩, hp.2, hp.1, rfl⟩)
 have kc := fun h => jdR (b := b) (s := s) (h := h) (zu hC T357)
 unfold coarE coarI
 unfold gA at kc ⊢
 rcases jeU b s with c | c
 ·rw [if_pos c]
  have g := jbJ c
  have p := jf4 g.2.2
  rw [c] at kc
  generalize hP : (2 : Int) ^ s.toNat = P at *
  refine zf hC tab351 ?_; simp only [B351]; refine zs ?_
  refine jaa.eq (kc _) ?_
  refine zs ?_
  rw [hP, Int.one_mul]
  exact ⟨rfl, HSub.push1 _ _⟩
 ·rw [if_neg (by omega)]
  rw [c] at kc
  refine zf hC tab351 ?_; simp only [B351]; refine zs ?_
  refine jaa.eq (kc _) ?_
  refine zs ?_
  exact ⟨rfl, HSub.push1 _ _⟩
theorem jiX (hC : Has C T348) {b s : Int} {h : Heap} : ACalls C 348 [gA b s] h (fun r h' => r = coarE b s ∧ h' = h) := by
 refine ACalls.gc0 (P := fun r h' => r = coarE b s ∧ HSub h h') ?_ (fun r h' hp => ⟨by rw [hp.1]; unfold coarE tup2; split <;> exact ⟨trivial, trivial, trivial⟩, hp.2, hp.1, rfl⟩)
 have kc := fun h => jdS (b := b) (s := s) (h := h) (zu hC T352)
 unfold coarE coarI
 unfold gA at kc ⊢
 rcases jeU b s with c | c
 ·rw [if_pos c]
  have g := jbJ c
  have p := jf4 g.2.2
  rw [c] at kc
  generalize hP : (2 : Int) ^ s.toNat = P at *
  refine zf hC tab348 ?_; simp only [B348]; refine zs ?_
  refine jaa.eq (kc _) ?_
  refine zs ?_
  rw [hP, Int.one_mul]
  exact ⟨rfl, HSub.push1 _ _⟩
 ·rw [if_neg (by omega)]
  rw [c] at kc
  refine zf hC tab348 ?_; simp only [B348]; refine zs ?_
  refine jaa.eq (kc _) ?_
  refine zs ?_
  exact ⟨rfl, HSub.push1 _ _⟩
end
end Go.Ae
namespace Go.Ae
def codeE (p : PlanP) (prn : Int) : Int := if prn ∈ p.prns then 0 else 18
def sampE (s : List (Int × Int)) : Int := if 1048576 < s.length then 4 else if ∀ x ∈ s, inS 127 x then 0 else 2
def placE (f m : Int) : Int := if f < 0 ∨ 1048576 < f ∨ m < 1 ∨ 16 < m then 2 else 0
def firstE : List Int → Int
 | [] => 0
 | x :: l => if x ≠ 0 then x else firstE l
theorem jf5 {l : List Int} {k : Nat} (h : ∀ i, i < k → l.getD i 0 = 0) : firstE l = firstE (l.drop k) := by
 induction k generalizing l with
 | zero => rfl
 | succ k ih =>
  match l with
  | [] => rfl
  | x :: l =>
   have h0 := h 0 (by omega)
   rw [List.getD_cons_zero] at h0
   rw [firstE, if_neg (by omega), List.drop_succ_cons]
   exact ih (fun i hi => by have := h (i + 1) (by omega); rwa [List.getD_cons_succ] at this)
section
variable {C : Ctx}
theorem jem (hC : Has C T375) {v : AV} {l : List Int} {h : Heap} (hl : RI h v l) (hb : l.length ≤ 1000) : ACalls C 375 [v] h (fun r h' => r = .int .i64 (firstE l) ∧ h' = h) := by
 refine zf hC tab375 ?_; simp only [B375]; refine zs1 @hl.len ?_
 refine jab (fun j t h' => h' = h ∧ ∃ k : Nat, t 5 = v ∧ t 6 = .int .i64 (l.length : Nat) ∧ t 7 = .int .i64 (k : Nat) ∧ (∀ i, i < k → l.getD i 0 = 0) ∧ k ≤ l.length ∧ j = l.length - k) (j0 := l.length)
  ⟨rfl, 0, rfl, rfl, rfl, fun i hi => by omega, by omega, rfl⟩ ?_
 rintro j t h1 ⟨rfl, k, e5, e6, e7, hp, hk, hj⟩
 refine zs2 @e6 @e7 ?_
 refine Br.by (fun c => ?_) (fun c => ?_)
 ·have hk' : k < l.length := by omega
  have fs := jf5 hp
  rw [List.drop_eq_getElem_cons hk'] at fs
  have eg : l.getD k 0 = l[k] := by rw [List.getD_eq_getElem?_getD, List.getElem?_eq_getElem hk']; rfl
  have hp' : l.getD k 0 = 0 → ∀ i, i < k + 1 → l.getD i 0 = 0 := fun q i hi => by
   rcases Nat.lt_or_ge i k with x | x
   ·exact hp i x
   ·have : i = k := by omega
    rw [this]; exact q
  have hf : ¬ l.getD k 0 = 0 → firstE l = l.getD k 0 := fun q => by rw [fs, ← eg, firstE, if_pos q]
  refine zs4 @e5 @e7 @hl.idx @hl.load ?_
  refine Br.by (fun c2 => ?_) (fun c2 => ?_)
  ·rw [hf c2]
   exact ze
  ·have q0 : l.getD k 0 = 0 := by
    by_cases q : l.getD k 0 = 0
    ·exact q
    ·exact absurd q c2
   refine zs3 @e5 @e6 @e7 ?_
   exact ⟨_, ⟨k + 1, by simp, hp' q0, by omega, rfl⟩, by omega⟩
 ·have ek : k = l.length := by omega
  have fs := jf5 hp
  rw [ek, List.drop_length] at fs
  rw [fs]
  exact ze1 @firstE.eq_1
theorem je8 (hC : Has C T376) {vp : AV} {p : PlanP} {prn : Int} {h : Heap} (R : RI h vp p.prns) : ACalls C 376 [plA p vp, .int .i64 prn] h (fun r h' => r = .int .i64 (codeE p prn) ∧ h' = h) := by
 refine ACalls.gc0 (P := fun r h' => r = .int .i64 (codeE p prn) ∧ HSub h h') ?_ (fun r h' hp => ⟨by rw [hp.1]; trivial, hp.2, hp.1, rfl⟩)
 have v1 := R.one
 have k1 := fun h1 (q : HSub h h1) => jbs (zu hC T89) (x := prn) (R.mono q)
 have e : (p.prns.any fun y => prn == y) = decide (prn ∈ p.prns) := by
  rw [Bool.eq_iff_iff]; simp
 rw [e] at k1
 unfold codeE plA
 by_cases c : prn ∈ p.prns
 ·rw [if_pos c]
  rw [decide_eq_true c] at k1
  refine zf hC tab376 ?_; simp only [B376]; refine zs ?_
  refine jaa.eq (k1 _ (HSub.push1 _ _)) ?_
  refine zs ?_
  exact HSub.push1 _ _
 ·rw [if_neg c]
  rw [decide_eq_false c] at k1
  refine zf hC tab376 ?_; simp only [B376]; refine zs ?_
  refine jaa.eq (k1 _ (HSub.push1 _ _)) ?_
  refine zs ?_
  exact HSub.push1 _ _
theorem jdx (hC : Has C T378) {f m : Int} {h : Heap} : ACalls C 378 [.int .i64 f, .int .i64 m] h (fun r h' => r = .int .i64 (placE f m) ∧ h' = h) := by
 unfold placE
 refine zf hC tab378 ?_; simp only [B378]; refine zs1 @gV_u ?_
 (repeat' (first | (refine Br.by (fun _ => ?_) (fun _ => ?_)) | (refine zs1 @gV_u ?_)))
 all_goals first
  | (rw [if_pos (by omega)]; (refine zs ?_; try with_reducible trivial); done)
  | (rw [if_neg (by omega)]; (refine zs ?_; try with_reducible trivial); done)
  | (split <;> first | (exfalso; omega) | (exact ze))
theorem jkn (hC : Has C T385) {x : Int} {h : Heap} : ACalls C 385 [.int .i64 x] h (fun r h' => r = .bool (!decide (-127 ≤ x ∧ x ≤ 127)) ∧ h' = h) := by
 by_cases c : x < -127
 ·rw [decide_eq_false (show ¬ (-127 ≤ x ∧ x ≤ 127) by omega)]
  refine zf hC tab385 ?_; simp only [B385]; exact ze2 @c @gV_u
 ·by_cases c2 : 127 < x
  ·rw [decide_eq_false (show ¬ (-127 ≤ x ∧ x ≤ 127) by omega)]
   refine zf hC tab385 ?_; simp only [B385]; exact ze3 @c @c2 @gV_u
  ·rw [decide_eq_true (show -127 ≤ x ∧ x ≤ 127 by omega)]
   refine zf hC tab385 ?_; simp only [B385]; exact ze3 @c @c2 @gV_u
theorem jko (hC : Has C T386) (hD : Has C T385) {x : Int × Int} {i : Nat} {h : Heap} (g : h.get i = some (.cells [.func 385 [] []] true 0)) : ACalls C 386 [smp x, .ptr i 0] h (fun r h' => r = .bool (!decide (inS 127 x)) ∧ h' = h) := by
 refine ACalls.gc0 (P := fun r h' => r = .bool (!decide (inS 127 x)) ∧ HSub h h') ?_ (fun r h' hp => ⟨by rw [hp.1]; trivial, hp.2, hp.1, rfl⟩)
 have k1 := fun x h1 => jkn hD (x := x) (h := h1)
 have hi := Heap.lt_of_get g
 obtain ⟨a, b⟩ := x
 have e : decide (inS 127 (a, b)) = (decide (-127 ≤ a ∧ a ≤ 127) && decide (-127 ≤ b ∧ b ≤ 127)) := by
  rw [Bool.eq_iff_iff, Bool.and_eq_true, decide_eq_true_eq, decide_eq_true_eq, decide_eq_true_eq]; exact Iff.rfl
 rw [e]
 unfold smp
 by_cases c : -127 ≤ a ∧ a ≤ 127
 ·have ka := k1 a
  rw [decide_eq_true c] at ka
  rw [decide_eq_true c, Bool.true_and]
  refine zf hC tab386 ?_; simp only [B386]; refine zs1 @g ?_
  refine jaa.eq (ka _) ?_
  refine zs1 @g ?_
  refine jaa.eq (k1 b _) ?_
  refine zs ?_
  exact (zh (HSub.refl h))
 ·have ka := k1 a
  rw [decide_eq_false c] at ka
  rw [decide_eq_false c, Bool.false_and]
  refine zf hC tab386 ?_; simp only [B386]; refine zs1 @g ?_
  refine jaa.eq (ka _) ?_
  refine zs1 @gV_u ?_
  exact (zh (HSub.refl h))
theorem jgl (hC : Has C T255) {v : AV} {l : List (Int × Int)} {g : Nat} {cs : List AV} {P : Int × Int → Prop} [DecidablePred P] {h : Heap} (hg : ∀ p, ACalls C g (smp p :: cs) h (fun r h' => r = .bool (!decide (P p)) ∧ h' = h)) (hl : SI h v l) :
  ACalls C 255 [v, .func g [] cs] h (fun r h' => r = .bool (!decide (∀ x ∈ l, P x)) ∧ h' = h) := by
 have hlt := hl.lt
 have hI : ACalls C 260 [v, .func g [] cs] h (fun r h' => (∃ i : Int, r = .int .i64 i ∧ -1 ≤ i ∧ (0 ≤ i ↔ ¬ ∀ x ∈ l, P x)) ∧ h' = h) := by
  have hC' : Has C T260 := (zu hC T260)
  have hC := hC'
  refine zf hC tab260 ?_; simp only [B260]; refine zs1 @hl.len ?_
  refine jab (fun j t h' => h' = h ∧ ∃ k : Nat, t 0 = v ∧ t 1 = .func g [] cs ∧ t 7 = .int .i64 (l.length : Nat) ∧ t 8 = .int .i64 (k : Nat) ∧ (∀ i, i < k → P (l.getD i (0, 0))) ∧ k ≤ l.length ∧ j = l.length - k) (j0 := l.length)
   ⟨rfl, 0, rfl, rfl, rfl, rfl, fun i hi => by omega, by omega, rfl⟩ ?_
  rintro j t h1 ⟨rfl, k, e0, e1, e7, e8, hp, hk, hj⟩
  refine zs2 @e7 @e8 ?_
  refine Br.by (fun c => ?_) (fun c => ?_)
  ·have hk' : k < l.length := by omega
   have ld := hl.loadA hk'
   refine zs5 @e0 @e1 @e8 @hl.idx @ld ?_
   refine jaa.eq (hg _) ?_
   by_cases c2 : P (l.getD k (0, 0))
   ·refine zs5 @c2 @e0 @e1 @e7 @e8 ?_
    refine ⟨_, ⟨k + 1, by simp, fun i hi => ?_, by omega, rfl⟩, by omega⟩
    rcases Nat.lt_or_ge i k with x | x
    ·exact hp i x
    ·have : i = k := by omega
     subst this; exact c2
   ·refine zs5 @c2 @e0 @e1 @e7 @e8 ?_
    refine ⟨by omega, ⟨fun _ q => c2 (q _ (jec hk')), fun _ => by omega⟩⟩
  ·have ek : k = l.length := by omega
   refine zs ?_
   refine ⟨fun q => q.elim, fun q => absurd (fun x hx => ?_) q⟩
   obtain ⟨i, hi, rfl⟩ := List.getElem_of_mem hx
   have := hp i (by omega)
   rwa [List.getD_eq_getElem?_getD, List.getElem?_eq_getElem hi] at this
 refine zf hC tab255 ?_; simp only [B255]; refine zs ?_
 refine jaa.of hI ?_
 rintro r h1 ⟨⟨i, rfl, h1, h2⟩, rfl⟩
 refine zs ?_
 by_cases c : ∀ x ∈ l, P x
 ·rw [decide_eq_true c]
  have : ¬ 0 ≤ i := fun q => h2.1 q c
  simp [this]
 ·rw [decide_eq_false c]
  have : 0 ≤ i := h2.2 c
  simp [this]
theorem jc7 (hC : Has C T377) {v : AV} {s : List (Int × Int)} {h : Heap} (hs : SI h v s) : ACalls C 377 [v] h (fun r h' => r = .int .i64 (sampE s) ∧ h' = h) := by
 refine ACalls.gc0 (P := fun r h' => r = .int .i64 (sampE s) ∧ HSub h h') ?_ (fun r h' hp => ⟨by rw [hp.1]; trivial, hp.2, hp.1, rfl⟩)
 have hlt := hs.lt
 have kc := fun h1 (q : HSub h h1) i (g : h1.get i = some (.cells [.func 385 [] []] true 0)) => jgl (zu hC T255) (g := 386) (cs := [.ptr i 0]) (P := fun p => inS 127 p) (fun p => jko (zu hC T386) (zu hC T385) g) (hs.mono q)
 unfold sampE
 by_cases c : 1048576 < s.length
 ·rw [if_pos c]
  refine zf hC tab377 ?_; simp only [B377]; refine zs2 @hs.len @jcH ?_
  exact HSub.refl h
 ·rw [if_neg c]
  by_cases c2 : ∀ x ∈ s, inS 127 x
  ·rw [if_pos c2]
   rw [decide_eq_true c2] at kc
   refine zf hC tab377 ?_; simp only [B377]; refine zs2 @hs.len @jcH ?_
   refine jaa.eq (kc (h.push (.cells [.func 385 [] []] true 0)) (HSub.push1 _ _) h.size (by exact ze)) ?_
   refine zs ?_
   exact HSub.push1 _ _
  ·rw [if_neg c2]
   rw [decide_eq_false c2] at kc
   refine zf hC tab377 ?_; simp only [B377]; refine zs2 @hs.len @jcH ?_
   refine jaa.eq (kc (h.push (.cells [.func 385 [] []] true 0)) (HSub.push1 _ _) h.size (by exact ze)) ?_
   refine zs ?_
   exact HSub.push1 _ _
theorem jdy (hC : Has C T387) {vp : AV} {p : PlanP} {h : Heap} (v1 : vp.one = true) (pn : p.numsOk) : ACalls C 387 [plA p vp] h (fun r h' => r = .int .i64 p.size ∧ h' = h) := by
 refine ACalls.gc0 (P := fun r h' => r = .int .i64 p.size ∧ HSub h h') ?_ (fun r h' hp => ⟨by rw [hp.1]; trivial, hp.2, hp.1, rfl⟩)
 have sz := jam pn
 have d64 : In64 p.d := by have := pn.1; unfold lenOk at this; unfold In64; simp at this; omega
 have kl := fun h1 => jaC (zu hC T70) (h := h1) d64
 have el : lenE p.d = tup2 (lenN p.d : Nat) 0 := by unfold lenE; rw [if_pos pn.1]
 rw [el] at kl
 have o' := pn.2.1
 have ps : p.size = (lenN p.d : Nat) * p.o := rfl
 unfold plA
 unfold tup2 at kl
 refine zf hC tab387 ?_; simp only [B387]; refine zs ?_
 refine jaa.eq (kl _) ?_
 simp -implicitDefEqProofs (disch := first | exact zd | fail) only [↓wpPre, jaq, jar, Int.reduceToNat, Int.reducePow, Int.reduceMul, Int.reduceAdd, Int.reduceSub, Int.reduceNeg, Nat.reduceAdd, Nat.reduceMul, Nat.reducePow, Int.reduceLT, Int.reduceLE, Int.reduceEq, Nat.reduceEqDiff, ← ps]
 exact (zh (HSub.refl h))
theorem jhN (hC : Has C T389) {p : Int × Int} {h : Heap} : ACalls C 389 [smp p] h (fun r h' => r = .int .i64 (powP p) ∧ h' = h) := by
 refine ACalls.gc0 (P := fun r h' => r = .int .i64 (powP p) ∧ HSub h h') ?_ (fun r h' hp => ⟨by rw [hp.1]; trivial, hp.2, hp.1, rfl⟩)
 unfold smp powP
 refine zf hC tab389 ?_; simp only [B389]; refine zs ?_
 exact (zh (HSub.refl h))
def fitB (s : List (Int × Int)) (p : PlanP) (f m : Int) : Bool := decide (f + p.size - 1 + m * p.size ≤ s.length)
theorem je9 (hC : Has C T379) {v vp : AV} {s : List (Int × Int)} {p : PlanP} {f m : Int} {h : Heap} (hs : SI h v s) (v1 : vp.one = true) (pn : p.numsOk) (hf : 0 ≤ f ∧ f ≤ 1048576) (hm : 1 ≤ m ∧ m ≤ 16) :
  ACalls C 379 [v, plA p vp, .int .i64 f, .int .i64 m] h (fun r h' => r = .bool (fitB s p f m) ∧ h' = h) := by
 refine ACalls.gc0 (P := fun r h' => r = .bool (fitB s p f m) ∧ HSub h h') ?_ (fun r h' hp => ⟨by rw [hp.1]; trivial, hp.2, hp.1, rfl⟩)
 have sz := jam pn
 have hlt := hs.lt
 have kp := fun h1 => jdy (zu hC T387) (h := h1) v1 pn
 have m1 : 0 ≤ m * p.size := Int.mul_nonneg (by omega) (by omega)
 have m2 : m * p.size ≤ 16 * 8184 := Int.mul_le_mul hm.2 sz.2.1 (by omega) (by omega)
 unfold fitB
 generalize hms : m * p.size = ms at *
 unfold plA at *
 refine zf hC tab379 ?_; simp only [B379]; refine zs1 @hs.len ?_
 refine jaa.eq (kp _) ?_
 refine zs2 @hs.len @hms ?_
 exact (zh (HSub.refl h))
end
end Go.Ae
namespace Go.Ae
abbrev keyP (x y : Int) : AV := .agg [.int .i64 x, .int .i64 y]
abbrev ksP : AKey := .struct [(0, false), (1, false)]
def ents (f : Int → Int → Int) (K : List (Int × Int)) : List (AV × AV) := K.map fun t => (keyP t.1 t.2, .int .i64 (f t.1 t.2))
theorem jeV (x y a b : Int) : keyEq ksP (keyP x y) (keyP a b) = some (x == a && (y == b && true)) := by
 simp [keyEq, jat]
theorem jkp {f : Int → Int → Int} {x y : Int} : ∀ {K : List (Int × Int)} {s : Nat}, (x, y) ∈ K → ∃ j, findA ksP (keyP x y) (ents f K) s = some (some (j, .int .i64 (f x y)))
 | [], s, h => by cases h
 | (a, b) :: K, s, h => by
  simp only [ents, List.map_cons, findA, jeV]
  by_cases c : x = a ∧ y = b
  ·obtain ⟨rfl, rfl⟩ := c
   exact ⟨s, by simp⟩
  ·have e : (x == a && (y == b && true)) = false := by
    rcases Classical.em (x = a) with q | q
    ·subst q
     have : ¬ y = b := fun e => c ⟨rfl, e⟩
     simp [this]
    ·simp [q]
   rw [e]
   have h' : (x, y) ∈ K := by
    rcases List.mem_cons.1 h with q | q
    ·cases q; exact absurd ⟨rfl, rfl⟩ c
    ·exact q
   exact jkp h'
theorem find_out {f : Int → Int → Int} {x y : Int} : ∀ {K : List (Int × Int)} {s : Nat}, (x, y) ∉ K → findA ksP (keyP x y) (ents f K) s = some none
 | [], s, h => rfl
 | (a, b) :: K, s, h => by
  simp only [ents, List.map_cons, findA, jeV]
  simp only [List.mem_cons, Prod.mk.injEq, not_or] at h
  have e : (x == a && (y == b && true)) = false := by
   rcases Classical.em (x = a) with q | q
   ·subst q
    have : ¬ y = b := fun e => h.1 ⟨rfl, e⟩
    simp [this]
   ·simp [q]
  rw [e]
  exact find_out h.2
theorem jow {f : Int → Int → Int} {x y : Int} {K : List (Int × Int)} {z : AV} (h : (x, y) ∈ K) : lookB ksP z false (keyP x y) (some (.map (ents f K))) = some (.int .i64 (f x y)) := by
 obtain ⟨j, e⟩ := jkp (f := f) (s := 0) h
 simp only [lookB, jeV, Option.isSome_some, if_true, e, Option.map_some, giveA]
 rfl
theorem jp3 {f : Int → Int → Int} {x y : Int} {K : List (Int × Int)} {z : AV} (h : (x, y) ∈ K) : lookB ksP z true (keyP x y) (some (.map (ents f K))) = some (.tuple [.int .i64 (f x y), .bool true]) := by
 obtain ⟨j, e⟩ := jkp (f := f) (s := 0) h
 simp only [lookB, jeV, Option.isSome_some, if_true, e, Option.map_some, giveA]
theorem jox {f : Int → Int → Int} {x y : Int} {K : List (Int × Int)} {z : AV} (h : (x, y) ∉ K) : lookB ksP z true (keyP x y) (some (.map (ents f K))) = some (.tuple [z, .bool false]) := by
 simp only [lookB, jeV, Option.isSome_some, if_true, find_out h, Option.map_some, giveA]
theorem jrE {f : Int → Int → Int} {x y : Int} {K : List (Int × Int)} {h : Heap} {i : Nat} (hk : (x, y) ∉ K) : updB h i ksP (keyP x y) (.int .i64 (f x y)) (some (.map (ents f K))) = some (h.put i (.map (ents f (K ++ [(x, y)])))) := by
 simp only [updB, jeV, Option.isSome_some, if_true, setA, find_out hk, Option.map_some]
 simp only [ents, List.map_append, List.map_cons, List.map_nil]
def grid (xs ys : List Int) : List (Int × Int) := xs.flatMap fun a => ys.map fun b => (a, b)
theorem jen {xs ys : List Int} {x y : Int} : (x, y) ∈ grid xs ys ↔ x ∈ xs ∧ y ∈ ys := by
 simp [grid]
def jcv (ps : List Int) (i k : Nat) : List (Int × Int) := grid (ps.take i) ps ++ (ps.take k).map fun b => (ps.getD i 0, b)
theorem jhO {l : List Int} {k : Nat} (hk : k < l.length) : l.take (k + 1) = l.take k ++ [l.getD k 0] := by
 rw [List.take_succ_eq_append_getElem hk, List.getD_eq_getElem?_getD, List.getElem?_eq_getElem hk]; rfl
theorem jkq {ps : List Int} {i k : Nat} (hk : k < ps.length) : jcv ps i (k + 1) = jcv ps i k ++ [(ps.getD i 0, ps.getD k 0)] := by
 simp [jcv, jhO hk]
theorem jmm {ps : List Int} {i : Nat} (hi : i < ps.length) : jcv ps i ps.length = jcv ps (i + 1) 0 := by
 simp [jcv, jhO hi, grid]
theorem jmn (ps : List Int) : jcv ps ps.length 0 = grid ps ps := by simp [jcv]
theorem jiY {ps : List Int} (hn : ps.Nodup) {i k : Nat} (hi : i < ps.length) (hk : k < ps.length) (e : ps.getD i 0 = ps.getD k 0) : i = k := by
 rw [List.getD_eq_getElem?_getD, List.getD_eq_getElem?_getD, List.getElem?_eq_getElem hi, List.getElem?_eq_getElem hk, Option.getD_some, Option.getD_some] at e
 have P := List.pairwise_iff_getElem.1 hn
 rcases Nat.lt_trichotomy i k with c | c | c
 ·exact absurd e (P i k hi hk c)
 ·exact c
 ·exact absurd e.symm (P k i hk hi c)
theorem jc8 {ps : List Int} (hn : ps.Nodup) {i : Nat} (hi : i < ps.length) : ps.getD i 0 ∉ ps.take i := by
 intro h
 obtain ⟨j, hj, e⟩ := List.mem_iff_getElem.1 h
 have hjl : j < min i ps.length := by simpa using hj
 have hj2 : j < ps.length := by omega
 rw [List.getElem_take] at e
 have := jiY hn hj2 hi (by rw [List.getD_eq_getElem?_getD (i := j), List.getElem?_eq_getElem hj2]; exact e)
 omega
theorem jmo {ps : List Int} (hn : ps.Nodup) {i k : Nat} (hi : i < ps.length) (hk : k < ps.length) : (ps.getD i 0, ps.getD k 0) ∉ jcv ps i k := by
 simp only [jcv, List.mem_append, jen, List.mem_map, Prod.mk.injEq, not_or, not_and, not_exists]
 exact ⟨fun h => absurd h (jc8 hn hi), fun x hx _ e => jc8 hn hk (e ▸ hx)⟩
/-! ### Plans -/
theorem jfa {n : Int} : ∀ {xs seen : List Int}, jaR n seen xs = 0 → (∀ x ∈ xs, 1 ≤ x ∧ x ≤ n + 2) ∧ xs.Nodup ∧ ∀ x ∈ xs, x ∉ seen
 | [], seen, h => ⟨by simp, by simp, by simp⟩
 | x :: xs, seen, h => by
  unfold jaR at h
  split at h
  ·cases h
  ·rename_i c1
   split at h
   ·cases h
   ·rename_i c2
    obtain ⟨h1, h2, h3⟩ := jfa h
    have hx : x ∉ seen := fun hm => c2 (List.any_eq_true.2 ⟨x, hm, by simp⟩)
    have c1' : 1 ≤ x ∧ x ≤ n + 2 := Classical.not_not.1 c1
    refine ⟨fun y hy => ?_, ?_, fun y hy => ?_⟩
    ·rcases List.mem_cons.1 hy with rfl | hy
     ·exact c1'
     ·exact h1 y hy
    ·exact List.nodup_cons.2 ⟨fun hm => h3 x hm (by simp), h2⟩
    ·rcases List.mem_cons.1 hy with rfl | hy
     ·exact hx
     ·exact fun hm => h3 y hy (by simp [hm])
structure PlanOk (p : PlanP) : Prop where
 nums : p.numsOk
 len : 1 ≤ p.prns.length ∧ p.prns.length ≤ 8
 prn : ∀ x ∈ p.prns, 1 ≤ x ∧ x ≤ lenN p.d + 2
 nodup : p.prns.Nodup
theorem jc9 {p : PlanP} (h : p.err = 0) : PlanOk p := by
 unfold PlanP.err at h
 split at h
 ·rename_i c1
  split at h
  ·cases h
  ·split at h
   ·cases h
   ·obtain ⟨h1, h2, _⟩ := jfa h
    exact ⟨c1, by omega, h1, h2⟩
 ·cases h
theorem PlanOk.code {p : PlanP} (ok : PlanOk p) {x : Int} (hx : x ∈ p.prns) : jap p.d x = 0 := by
 unfold jap
 rw [if_pos ⟨ok.nums.1, (ok.prn x hx).1, (ok.prn x hx).2⟩]
theorem PlanOk.tabE {p : PlanP} (ok : PlanOk p) : ∀ k, k ≤ p.prns.length → tabE p.d p.prns k = 0
 | 0, _ => rfl
 | k + 1, hk => by
  rw [Ae.tabE, if_neg (by rw [ok.tabE k (by omega)]; decide), if_neg, if_neg]
  ·intro h
   obtain ⟨y, hy, e⟩ := List.any_eq_true.1 h
   have : p.prns.getD k 0 = y := by simpa using e
   exact jc8 ok.nodup (by omega) (this ▸ hy)
  ·rw [ok.code (jal (by omega))]; decide
theorem PlanOk.known {p : PlanP} (ok : PlanOk p) : jak p.d p.o = 0 := by
 unfold jak
 rw [if_pos ⟨ok.nums.1, ok.nums.2.1⟩]
theorem PlanOk.tab {p : PlanP} (ok : PlanOk p) : tabErr p.d p.o p.prns = 0 := by
 unfold tabErr
 rw [if_neg (by rw [ok.known]; decide), if_neg (by have := ok.len; omega), if_neg (by have := ok.len; omega), ok.tabE _ (Nat.le_refl _)]
theorem PlanOk.samp {p : PlanP} (ok : PlanOk p) {xs : List Int} (h : ∀ x ∈ xs, x ∈ p.prns) : jaj p.d p.o xs = 0 := by
 unfold jaj
 rw [if_pos ⟨ok.known, fun x hx => ok.code (h x hx)⟩]
def sumI (d o a b : Int) : Int := jct (sampL d a o.toNat) (sampL d b o.toNat) (if a = b then o.toNat else 0)
theorem PlanOk.tbl {p : PlanP} (ok : PlanOk p) {i k : Nat} (hi : i < p.prns.length) (hk : k < p.prns.length) : ((tblL p.d p.o.toNat p.prns).getD i []).getD k 0 = sumI p.d p.o (p.prns.getD i 0) (p.prns.getD k 0) := by
 have e : (i = k) = (p.prns.getD i 0 = p.prns.getD k 0) := propext ⟨fun e => by rw [e], fun e => jiY ok.nodup hi hk e⟩
 simp only [tblL, List.getD_eq_getElem?_getD, List.getElem?_map, List.getElem?_range hi, Option.map_some, Option.getD_some, tabRow, List.getElem?_range hk, sumI]
 simp only [List.getD_eq_getElem?_getD] at e
 simp only [e]
def wpI (s : List (Int × Int)) (c : List Int) (a : Int) : Int := powP (sumP s c a)
def pwK (s : List (Int × Int)) (c : List Int) (a w : Int) : Nat → Int
 | 0 => 0
 | k + 1 => pwK s c a w k + wpI s c (a + (k : Nat) * w)
def scanL (s : List (Int × Int)) (c : List Int) (f w : Int) (m n : Nat) : List Int := (List.range n).map fun i => pwK s c (f + (i : Nat)) w m
theorem jb8 (s : List (Int × Int)) (c : List Int) (f w : Int) (m n : Nat) : (scanL s c f w m n).length = n := by simp [scanL]
theorem jmp (s : List (Int × Int)) (c : List Int) (f w : Int) (m n : Nat) : scanL s c f w m (n + 1) = scanL s c f w m n ++ [pwK s c (f + (n : Nat)) w m] := by simp [scanL, List.range_succ]
theorem jf6 {s : List (Int × Int)} {c : List Int} {f w : Int} {m n i : Nat} (h : i < n) : (scanL s c f w m n).getD i 0 = pwK s c (f + (i : Nat)) w m := by simp [scanL, List.getD_eq_getElem?_getD, h]
def bstK (l : List Int) : Nat → Nat
 | 0 => 0
 | k + 1 => if l.getD (bstK l k) 0 < l.getD k 0 then k else bstK l k
theorem joy (l : List Int) (k : Nat) : bstK l k < k ∨ bstK l k = 0 := by
 induction k with
 | zero => exact .inr rfl
 | succ k ih =>
  unfold bstK
  split <;> omega
theorem jhP {x : Int × Int} (h : inS 1039368 x) : powP x = x.1 * x.1 + x.2 * x.2 ∧ 0 ≤ powP x ∧ powP x ≤ 2200000000000 := by
 unfold inS at h
 have a := jgU (k := x.1) (s := x.1) (K := 1039368) (S := 1039368) h.1 h.1
 have b := jgU (k := x.2) (s := x.2) (K := 1039368) (S := 1039368) h.2 h.2
 have c : 0 ≤ x.1 * x.1 := by
  rcases Int.lt_or_le x.1 0 with q | q
  ·have := Int.mul_nonneg (show 0 ≤ -x.1 by omega) (show 0 ≤ -x.1 by omega)
   rwa [Int.neg_mul_neg] at this
  ·exact Int.mul_nonneg q q
 have d : 0 ≤ x.2 * x.2 := by
  rcases Int.lt_or_le x.2 0 with q | q
  ·have := Int.mul_nonneg (show 0 ≤ -x.2 by omega) (show 0 ≤ -x.2 by omega)
   rwa [Int.neg_mul_neg] at this
  ·exact Int.mul_nonneg q q
 have e : powP x = x.1 * x.1 + x.2 * x.2 := by
  unfold powP
  have e1 := w_i64 (x := x.1 * x.1) (by omega)
  have e2 := w_i64 (x := x.2 * x.2) (by omega)
  have e3 := w_i64 (x := x.1 * x.1 + x.2 * x.2) (by omega)
  rw [e1, e2, e3]
 rw [e]
 omega
structure AcOk (p : PlanP) (s : List (Int × Int)) (prn : Int) : Prop where
 err : p.err = 0
 ok : PlanOk p
 p64 : p.ok64
 hin : prn ∈ p.prns
 len : s.length ≤ 1048576
 sm : ∀ x ∈ s, inS 127 x
theorem AcOk.bank {p : PlanP} {s : List (Int × Int)} {prn : Int} (A : AcOk p s prn) {a : Int} (h : -2000000 ≤ a ∧ a ≤ 2000000) : bankErr s p.d p.o prn a = 0 := by
 have se : jaj p.d p.o [prn] = 0 := A.ok.samp (fun x hx => by rw [List.mem_singleton] at hx; rw [hx]; exact A.hin)
 have := A.len
 unfold bankErr
 rw [if_neg (by omega), if_neg (by simpa using A.sm), if_neg (by rw [se]; decide), if_neg (by omega)]
theorem AcOk.win {p : PlanP} {s : List (Int × Int)} {prn : Int} (A : AcOk p s prn) (a : Int) : inS 1039368 (sumP s (sampL p.d prn p.o.toNat) a) := by
 have sz := jam A.ok.nums
 have sl1 : ((sampL p.d prn p.o.toNat).length : Int) = p.size := by rw [jaF, sz.2.2]
 have q := jhD (a := a) A.sm (jay p.d prn p.o.toNat) (sampL p.d prn p.o.toNat).length
 exact jkW q (by omega)
theorem AcOk.pw {p : PlanP} {s : List (Int × Int)} {prn : Int} (A : AcOk p s prn) (a w : Int) : ∀ k : Nat, 0 ≤ pwK s (sampL p.d prn p.o.toNat) a w k ∧ pwK s (sampL p.d prn p.o.toNat) a w k ≤ 2200000000000 * k
 | 0 => by simp [pwK]
 | k + 1 => by
  have ih := A.pw a w k
  have q := (jhP (A.win (a + (k : Nat) * w))).2
  unfold pwK wpI
  omega
def askA (p : PlanP) (vp : AV) (b s : Int) : AV := .agg [.int .i64 p.d, .int .i64 p.o, .int .i64 p.pb, .int .i64 p.w, .int .i64 p.mn, .int .i64 p.mx, .int .i64 p.nz, vp, .int .i64 b, .int .i64 s]
def humI (p : PlanP) (s : Int) : Int := (3 * p.size * (p.nz + coarI s) + 1) / 2
def SumV (h : Heap) (v : AV) (p : PlanP) (s : Int) : Prop := ∃ j, v = .agg [.map j, .int .i64 p.size, .int .i64 (humI p s)] ∧ h.get j = some (.map (ents (sumI p.d p.o) (grid p.prns p.prns)))
theorem SumV.mono {h h' : Heap} {v : AV} {p : PlanP} {s : Int} (H : SumV h v p s) (hs : HSub h h') : SumV h' v p s := by
 obtain ⟨j, e, g⟩ := H
 exact ⟨j, e, (hs.get j (Heap.lt_of_get g)).trans g⟩
theorem LLI.atC {h : Heap} {v : AV} {ll : List (List Int)} (H : LLI h v ll) {i : Nat} (hi : i < ll.length) : ∃ w, idxA 1 v (.int .i64 (i : Nat)) = some (elA 1 v i) ∧ (∀ h', HSub h h' → Ae.loadA h' false 1 (elA 1 v i) = some w) ∧ RI h w (ll.getD i []) := by
 obtain ⟨vs, a, b, c⟩ := H
 refine ⟨vs.getD i .nilslice, a.idx ⟨by omega, by omega⟩, fun h' hs => ?_, c i hi⟩
 rw [SL.load1 (a.mono hs) hi]
 simp [show i < vs.length by omega]
theorem jdm {s : Int} (h : 0 ≤ s ∧ s ≤ 30) : 0 ≤ coarI s ∧ coarI s ≤ 536870912 := by
 have := jf4 h
 unfold coarI
 generalize (2 : Int) ^ s.toNat = q at *
 omega
theorem jf7 {p : PlanP} {s : Int} (ok : PlanOk p) (h : 0 ≤ s ∧ s ≤ 30) : 0 ≤ 3 * p.size * (p.nz + coarI s) ∧ 3 * p.size * (p.nz + coarI s) ≤ 13183710000000 ∧ 0 ≤ 3 * p.size ∧ 3 * p.size ≤ 24552 := by
 have a : 31 ≤ p.size ∧ p.size ≤ 8184 := ⟨(jam ok.nums).1, (jam ok.nums).2.1⟩
 have b := jdm h
 have n := ok.nums.2.2.2.2.2.2
 have q1 : 0 ≤ p.nz + coarI s := by omega
 have q2 : p.nz + coarI s ≤ 536970912 := by omega
 have m1 := Int.mul_nonneg (show 0 ≤ 3 * p.size by omega) q1
 have m2 := Int.mul_le_mul (show 3 * p.size ≤ 24552 by omega) q2 q1 (by decide)
 refine ⟨m1, Int.le_trans m2 (by decide), by omega, by omega⟩
section
variable {C : Ctx}
set_option maxHeartbeats 4000000 in
set_option maxRecDepth 20000 in
theorem jhQ (hC : Has C T340) {p : PlanP} {vp : AV} {b s : Int} {h : Heap} (ok : PlanOk p) (hg : gErr b s = 0) (h64 : p.ok64) (R : RI h vp p.prns) :
  ACalls C 340 [askA p vp b s] h (fun r h' => SumV h' r p s ∧ HSub h h') := by
 have v1 := R.one
 have g := jbJ hg
 have L := fun h => jaC (zu hC T70) (h := h) h64.1
 have el : lenE p.d = tup2 (lenN p.d) 0 := by unfold lenE; rw [if_pos ok.nums.1]
 simp only [el] at L
 have kt := fun h1 (R1 : RI h1 vp p.prns) => jmj (zu hC T172) (h := h1) h64.1 h64.2.1 R1 h64.2.2.2.2.2.2.2
 rw [ok.tab] at kt
 simp only [if_true] at kt
 have kc := fun h1 => jiW (b := b) (s := s) (h := h1) (zu hC T351)
 unfold coarE at kc
 rw [if_pos hg] at kc
 have sz := jam ok.nums
 have hu := jf7 ok g.2.2
 have cr := jdm g.2.2
 have tv := fun (i k : Nat) (hi : i < p.prns.length) (hk : k < p.prns.length) => ok.tbl hi hk
 have tl : (tblL p.d p.o.toNat p.prns).length = p.prns.length := by simp [tblL]
 have tr : ∀ i, i < p.prns.length → ((tblL p.d p.o.toNat p.prns).getD i []).length = p.prns.length := by
  intro i hi
  simp [tblL, List.getD_eq_getElem?_getD, hi, tabRow_length]
 have new := fun (i k : Nat) (hi : i < p.prns.length) (hk : k < p.prns.length) => jmo ok.nodup hi hk
 have kend := jmn p.prns
 have kstep := fun (i k : Nat) (hk : k < p.prns.length) => jkq (ps := p.prns) (i := i) hk
 have krow := fun (i : Nat) (hi : i < p.prns.length) => jmm (ps := p.prns) hi
 have l8 := ok.len
 have ez : (lenN p.d : Int) * p.o = p.size := rfl
 have nzr := ok.nums.2.2.2.2.2.2
 have np := ok.nums.2.1
 have xl : ∃ N : Int, N = (lenN p.d : Int) := ⟨_, rfl⟩
 obtain ⟨N, hN⟩ := xl
 have hN1 := jaQ ok.nums.1
 have hNr : 31 ≤ N ∧ N ≤ 1023 := by omega
 rw [← hN] at L ez
 unfold SumV humI askA
 generalize hf : sumI p.d p.o = f at *
 generalize tblL p.d p.o.toNat p.prns = TT at *
 generalize p.size = S at *
 generalize coarI s = cs at *
 obtain ⟨d, o, pb, w, mn, mx, nz, prns⟩ := p
 dsimp only at *
 refine zf hC tab340 ?_; simp only [B340]; refine zs ?_
 refine jaa.eq (L _) ?_
 refine zs1 @tup2.eq_1 ?_
 refine jaa.of (kt _ (R.mono (zh (HSub.refl h)))) ?_
 rintro r h2 ⟨v, rfl, sA, TL⟩
 have R2 := R.mono ((show HSub h ((h.push (.cells [.int .i64 d, .int .i64 o, .int .i64 pb, .int .i64 w, .int .i64 mn, .int .i64 mx, .int .i64 nz, vp, .int .i64 b, .int .i64 s] true 0)).push (.cells [.nilmap, .int .i64 0, .int .i64 0] true 0)) from (zh (HSub.refl h))).trans sA)
 have z2 := sA.size
 simp only [Heap.size_push] at z2
 have gP : h2.get h.size = some (.cells [.int .i64 d, .int .i64 o, .int .i64 pb, .int .i64 w, .int .i64 mn, .int .i64 mx, .int .i64 nz, vp, .int .i64 b, .int .i64 s] true 0) := (sA.get _ (by simp only [Heap.size_push]; omega)).trans (by exact ze)
 have gT : h2.get (h.size + 1) = some (.cells [.nilmap, .int .i64 0, .int .i64 0] true 0) := (sA.get _ (by simp only [Heap.size_push]; omega)).trans (by exact ze)
 have hs2 : HSub h h2 := (show HSub h _ from (zh (HSub.refl h))).trans sA
 clear sA kt
 unfold gA at kc
 refine zs3 @jac.eq_1 @gP @wpMap ?_
 refine jaa.eq (kc _) ?_
 have o1 : (AV.map h2.size).one = true := rfl
 have o0 : AV.nilmap.one = true := rfl
 refine zs6 @tup2.eq_1 @gP @gT @wpMap @ez @TL.len ?_
 refine jab (fun j t h' => ∃ i : Nat, HSub h2 h' ∧ h'.get h2.size = some (.map (ents f (jcv prns i 0))) ∧ h'.get (h2.size + 1) = some (.cells [.map h2.size, .int .i64 S, .int .i64 0] true 0) ∧
  t 1 = .ptr h.size 0 ∧ t 2 = .ptr (h.size + 1) 0 ∧ t 7 = .int .i64 cs ∧ t 9 = .ptr (h2.size + 1) 0 ∧ t 47 = v ∧ t 48 = .int .i64 (TT.length : Nat) ∧ t 49 = .int .i64 (i : Nat) ∧ i ≤ prns.length ∧ j = prns.length - i) (j0 := prns.length)
  ⟨0, (zh (HSub.refl h2)), by refine zs ?_; simp [jcv, grid, ents], by exact ze, rfl, rfl, rfl, rfl, rfl, rfl, rfl, by omega, rfl⟩ ?_
 rintro j t h3 ⟨i, s3, gM, gC, e1, e2, e7, e9, e47, e48, e49, hi, hj⟩
 refine zs2 @e48 @e49 ?_
 refine Br.by (fun c1 => ?_) (fun c1 => ?_)
 ·have hi' : i < prns.length := by omega
  have xr := TL.atC (i := i) (by omega)
  obtain ⟨w, ix, ld, Rw⟩ := xr
  have ld := ld _ s3
  have lenw := Rw.len
  have lw := tr i hi'
  rw [lw] at lenw
  refine zs10 @e1 @e2 @e7 @e9 @e47 @e48 @e49 @ix @ld @lenw ?_
  refine jab (fun j t h' => ∃ k : Nat, HSub h2 h' ∧ h'.get h2.size = some (.map (ents f (jcv prns i k))) ∧ h'.get (h2.size + 1) = some (.cells [.map h2.size, .int .i64 S, .int .i64 0] true 0) ∧
   t 1 = .ptr h.size 0 ∧ t 2 = .ptr (h.size + 1) 0 ∧ t 7 = .int .i64 cs ∧ t 9 = .ptr (h2.size + 1) 0 ∧ t 10 = .int .i64 (i : Nat) ∧ t 47 = v ∧ t 48 = .int .i64 (TT.length : Nat) ∧ t 49 = .int .i64 (i : Nat) ∧ t 54 = w ∧ t 55 = .int .i64 (prns.length : Nat) ∧ t 56 = .int .i64 (k : Nat) ∧ k ≤ prns.length ∧ j = prns.length - k) (j0 := prns.length)
   ⟨0, s3, gM, gC, e1, e2, e7, e9, rfl, e47, e48, e49, rfl, rfl, rfl, by omega, rfl⟩ ?_
  clear ix ld gM gC e1 e2 e7 e9 e47 e48 e49
  rintro j t h4 ⟨k, s4, gM, gC, e1, e2, e7, e9, e10, e47, e48, e49, e54, e55, e56, hk, hj⟩
  refine zs2 @e55 @e56 ?_
  refine Br.by (fun c2 => ?_) (fun c2 => ?_)
  ·have hk' : k < prns.length := by omega
   have Rw4 := Rw.mono s4
   have Rp4 := R2.mono s4
   have gP4 := (s4.get _ (by omega)).trans gP
   have lk := Rw4.load (k := k) (by omega)
   rw [tv i k hi' hk'] at lk
   have li := Rp4.load hi'
   have lj := Rp4.load hk'
   have up := fun H => jrE (f := f) (h := H) (i := h2.size) (new i k hi' hk')
   rw [← kstep i k hk'] at up
   simp only [keyP, ksP] at up
   have one := Rw.one
   simp -implicitDefEqProofs (disch := first | exact zd | fail) only [↓wpPre, jaq, jar, Int.reduceToNat, Int.reducePow, Int.reduceMul, Int.reduceAdd, Int.reduceSub, Int.reduceNeg, Nat.reduceAdd, Nat.reduceMul, Nat.reducePow, Int.reduceLT, Int.reduceLE, Int.reduceEq, Nat.reduceEqDiff, e1, e2, e7, e9, e10, e47, e48, e49, e54, e55, e56, Rw4.idx, Rp4.idx, lk, li, lj, gP4, gC, gM, wpMap, up]
   have z4 := Heap.lt_of_get gM
   exact ⟨_, ⟨k + 1, HSub.put s4 (Nat.le_refl _) _, jaP rfl z4, by omega, by omega, rfl⟩, by omega⟩
  ·obtain rfl : k = prns.length := by omega
   refine zs7 @e1 @e2 @e7 @e9 @e47 @e48 @e49 ?_
   rw [krow i hi'] at gM
   exact ⟨_, ⟨i + 1, s4, gM, gC, by omega, by omega, rfl⟩, by omega⟩
 ·obtain rfl : i = prns.length := by omega
  rw [kend] at gM
  have gT3 := (s3.get _ (by omega)).trans gT
  have gP3 := (s3.get _ (by omega)).trans gP
  have z3 := Heap.lt_of_get gC
  refine zs12 @e1 @e2 @e7 @e9 @e47 @e48 @e49 @gC @gP3 @gT3 @o1 @o0 ?_
  exact ⟨⟨h2.size, rfl, by rw [jae (by omega), jae (by omega)]; exact gM⟩, HSub.put (HSub.put (hs2.trans s3) (by omega) _) (by omega) _⟩
end
end Go.Ae
namespace Go.Ae
def othK (f : Int → Int → Int) (prn : Int) (ps : List Int) : Nat → Int
 | 0 => 0
 | k + 1 => othK f prn ps k + if ps.getD k 0 = prn then 0 else f prn (ps.getD k 0)
theorem jdn {f : Int → Int → Int} (fr : ∀ a b, 0 ≤ f a b ∧ f a b ≤ 8184) {prn : Int} {ps : List Int} : ∀ k : Nat, 0 ≤ othK f prn ps k ∧ othK f prn ps k ≤ 8184 * k
 | 0 => by simp [othK]
 | k + 1 => by
  have h := jdn fr (prn := prn) (ps := ps) k
  have q := fr prn (ps.getD k 0)
  unfold othK
  split <;> omega
def PlanP.oth (p : PlanP) (prn : Int) : Int := othK (sumI p.d p.o) prn p.prns p.prns.length
def boundI (p : PlanP) (s prn : Int) : Int := 128 * p.mx * (sumI p.d p.o prn prn + p.oth prn) + humI p s
def thrI (p : PlanP) (s prn : Int) : Int := (boundI p s prn + 2 ^ s.toNat - 1) / 2 ^ s.toNat
theorem jbn {p : PlanP} (hn : p.numsOk) (a b : Int) : 0 ≤ sumI p.d p.o a b ∧ sumI p.d p.o a b ≤ 8184 := by
 have h := jfW (jay p.d a p.o.toNat) (jay p.d b p.o.toNat) (if a = b then p.o.toNat else 0) 3 (Nat.le_refl _)
 rw [jgO, jaF] at h
 have sz := jam hn
 unfold sumI
 omega
theorem jeo {p : PlanP} (ok : PlanOk p) (prn : Int) : 0 ≤ p.oth prn ∧ p.oth prn ≤ 65472 := by
 have h := jdn (f := sumI p.d p.o) (fun a b => jbn ok.nums a b) (prn := prn) (ps := p.prns) p.prns.length
 have := ok.len
 unfold PlanP.oth
 omega
theorem jmq {p : PlanP} {s : Int} (ok : PlanOk p) (h : 0 ≤ s ∧ s ≤ 30) : 0 ≤ humI p s ∧ humI p s ≤ 6591855000000 := by
 have := jf7 ok h
 unfold humI
 generalize 3 * p.size * (p.nz + coarI s) = q at *
 omega
theorem jhR {p : PlanP} (ok : PlanOk p) {x : Int} (h : 0 ≤ x ∧ x ≤ 73656) : 0 ≤ 128 * p.mx * x ∧ 128 * p.mx * x ≤ 9427968000 := by
 have n := ok.nums.2.2.2.2
 have q1 : 0 ≤ 128 * p.mx := by omega
 have m1 := Int.mul_nonneg q1 h.1
 have m2 := Int.mul_le_mul (show 128 * p.mx ≤ 128000 by omega) h.2 h.1 (by decide)
 exact ⟨m1, Int.le_trans m2 (by decide)⟩
theorem jb2 {p : PlanP} {s : Int} (ok : PlanOk p) (h : 0 ≤ s ∧ s ≤ 30) (prn : Int) : 0 ≤ boundI p s prn ∧ boundI p s prn ≤ 6601282968000 := by
 have a := jbn ok.nums prn prn
 have b := jeo ok prn
 have c := jmq ok h
 have d := jhR ok (x := sumI p.d p.o prn prn + p.oth prn) (by omega)
 unfold boundI
 omega
theorem jiZ {p : PlanP} {s : Int} (ok : PlanOk p) (h : 0 ≤ s ∧ s ≤ 30) (prn : Int) : 0 ≤ thrI p s prn ∧ thrI p s prn ≤ 6602356709823 := by
 have b := jb2 ok h prn
 have q := jf4 h
 unfold thrI
 generalize (2 : Int) ^ s.toNat = P at *
 generalize boundI p s prn = B at *
 constructor
 ·exact Int.ediv_nonneg (by omega) (by omega)
 ·have := Int.ediv_le_self P (show 0 ≤ B + P - 1 by omega)
  omega
section
variable {C : Ctx}
set_option maxRecDepth 20000 in
theorem jhS (hC : Has C T356) {f : Int → Int → Int} {K : List (Int × Int)} {n q prn S H : Int} {i5 i3 j u5 u3 : Nat} {h : Heap} (fr : ∀ a b, 0 ≤ f a b ∧ f a b ≤ 8184) (hn : 0 ≤ n ∧ n ≤ 1000000)
  (g5 : h.get i5 = some (.cells [.int .i64 prn] true u5)) (g3 : h.get i3 = some (.cells [.map j, .int .i64 S, .int .i64 H] true u3)) (gm : h.get j = some (.map (ents f K))) (hin : (prn, q) ∈ K) :
  ACalls C 356 [.int .i64 n, .int .i64 q, .ptr i5 0, .ptr i3 0] h (fun r h' => r = .int .i64 (n + if q = prn then 0 else f prn q) ∧ h' = h) := by
 have lk := jow (f := f) (z := .int .i64 0) hin
 simp only [keyP, ksP] at lk
 have fq := fr prn q
 by_cases c : q = prn
 ·rw [if_pos c]
  refine zf hC tab356 ?_; simp only [B356]; refine zs2 @g5 @c ?_
  omega
 ·rw [if_neg c]
  refine zf hC tab356 ?_; simp only [B356]; exact ze6 @g5 @g3 @gm @c @wpMap @lk
set_option maxRecDepth 20000 in
theorem ji0 (hC : Has C T347) {f : Int → Int → Int} {K : List (Int × Int)} {prn S H : Int} {i5 i3 j u5 u3 : Nat} {v : AV} {l : List Int} {h : Heap} (fr : ∀ a b, 0 ≤ f a b ∧ f a b ≤ 8184) (R : RI h v l) (l8 : l.length ≤ 8)
  (g5 : h.get i5 = some (.cells [.int .i64 prn] true u5)) (g3 : h.get i3 = some (.cells [.map j, .int .i64 S, .int .i64 H] true u3)) (gm : h.get j = some (.map (ents f K))) (hin : ∀ q ∈ l, (prn, q) ∈ K) :
  ACalls C 355 [v, .int .i64 0, .func 356 [] [.ptr i5 0, .ptr i3 0]] h (fun r h' => r = .int .i64 (othK f prn l l.length) ∧ h' = h) := by
 have rg := fun k => jdn fr (prn := prn) (ps := l) k
 have st := fun (k : Nat) (hk : k < l.length) => jhS (zu hC T356) (n := othK f prn l k) (q := l.getD k 0) fr (by have := rg k; omega) g5 g3 gm (hin _ (jal hk))
 have hC := hC.sub (T' := T355) (by decide)
 refine zf hC tab355 ?_; simp only [B355]; refine zs1 @R.len ?_
 refine jab (fun j t h' => h' = h ∧ ∃ k : Nat, t 1 = .int .i64 (othK f prn l k) ∧ t 2 = .func 356 [] [.ptr i5 0, .ptr i3 0] ∧ t 9 = v ∧ t 10 = .int .i64 (l.length : Nat) ∧ t 11 = .int .i64 (k : Nat) ∧ k ≤ l.length ∧ j = l.length - k) (j0 := l.length)
  ⟨rfl, 0, rfl, rfl, rfl, rfl, rfl, by omega, rfl⟩ ?_
 rintro j t h' ⟨rfl, k, e1, e2, e9, e10, e11, hk, hj⟩
 refine zs2 @e10 @e11 ?_
 refine Br.by (fun c => ?_) (fun c => ?_)
 ·have hk' : k < l.length := by omega
  refine zs7 @e1 @e2 @e9 @e10 @e11 @R.idx (R.load hk') ?_
  refine jaa.eq (st k hk') ?_
  refine zs5 @e1 @e2 @e9 @e10 @e11 ?_
  exact ⟨_, ⟨k + 1, rfl, by omega, by omega, rfl⟩, by omega⟩
 ·obtain rfl : k = l.length := by omega
  exact ze1 @e1
set_option maxRecDepth 20000 in
theorem jgm (hC : Has C T347) {p : PlanP} {vp sv : AV} {b s prn : Int} {h : Heap} (ok : PlanOk p) (R : RI h vp p.prns) (V : SumV h sv p s) (hin : prn ∈ p.prns) :
  ACalls C 347 [sv, askA p vp b s, .int .i64 prn] h (fun r h' => r = .int .i64 (p.oth prn) ∧ h' = h) := by
 refine ACalls.gc0 (P := fun r h' => r = .int .i64 (p.oth prn) ∧ HSub h h') ?_ (fun r h' hp => ⟨by rw [hp.1]; trivial, hp.2, hp.1, rfl⟩)
 have v1 := R.one
 obtain ⟨j, rfl, gm⟩ := V
 have jl := Heap.lt_of_get gm
 have ff := fun (H : Heap) (i5 i3 u5 u3 : Nat) (R1 : RI H vp p.prns) g5 g3 gm1 => ji0 hC (h := H) (prn := prn) (S := p.size) (H := humI p s) (i5 := i5) (i3 := i3) (u5 := u5) (u3 := u3) (j := j) (fun a b => jbn ok.nums a b) R1 ok.len.2 g5 g3 gm1 (fun q hq => jen.2 ⟨hin, hq⟩)
 unfold PlanP.oth askA
 generalize sumI p.d p.o = f at *
 generalize p.size = S at *
 generalize humI p s = HM at *
 have o1 : (AV.map j).one = true := rfl
 refine zf hC tab347 ?_; simp only [B347]; refine zs1 @wpMap ?_
 refine jaa.eq (ff _ _ _ 0 0 (R.mono (zh (HSub.refl h))) (by exact ze) (by exact ze) (by refine zs ?_; exact gm)) ?_
 refine zs ?_
 exact (zh (HSub.refl h))
set_option maxRecDepth 20000 in
theorem jhT (hC : Has C T334) {p : PlanP} {vp sv : AV} {b s prn : Int} {h : Heap} (ok : PlanOk p) (hs : 0 ≤ s ∧ s ≤ 30) (R : RI h vp p.prns) (V : SumV h sv p s) (hin : prn ∈ p.prns) :
  ACalls C 334 [sv, askA p vp b s, .int .i64 prn] h (fun r h' => r = .int .i64 (boundI p s prn) ∧ h' = h) := by
 refine ACalls.gc0 (P := fun r h' => r = .int .i64 (boundI p s prn) ∧ HSub h h') ?_ (fun r h' hp => ⟨by rw [hp.1]; trivial, hp.2, hp.1, rfl⟩)
 have v1 := R.one
 have lk := fun (H : Heap) => jgm (b := b) (zu hC T347) (h := H) (sv := sv) (vp := vp) (prn := prn) (s := s) ok
 have bd := jb2 ok hs prn
 have m1 := jbn ok.nums prn prn
 have m2 := jeo ok prn
 have m3 := jhR ok (x := sumI p.d p.o prn prn + p.oth prn) (by omega)
 have m4 := ok.nums.2.2.2.2
 have V0 := V
 obtain ⟨j, rfl, gm⟩ := V
 have jl := Heap.lt_of_get gm
 have kin := jow (f := sumI p.d p.o) (z := .int .i64 0) (jen.2 ⟨hin, hin⟩)
 simp only [keyP, ksP] at kin
 have o1 : (AV.map j).one = true := rfl
 unfold boundI askA at *
 generalize p.oth prn = O at *
 generalize sumI p.d p.o = f at *
 generalize p.size = S at *
 generalize humI p s = HM at *
 obtain ⟨d, o, pb, w, mn, mx, nz, prns⟩ := p
 dsimp only at *
 refine zf hC tab334 ?_; simp only [B334]; refine zs3 @wpMap @gm @kin ?_
 refine jaa.eq (lk _ (R.mono (zh (HSub.refl h))) (V0.mono (zh (HSub.refl h))) hin) ?_
 refine zs1 @wpMap ?_
 exact (zh (HSub.refl h))
set_option maxRecDepth 20000 in
theorem jkr (hC : Has C T332) {p : PlanP} {vp sv : AV} {b s prn : Int} {h : Heap} (ok : PlanOk p) (hs : 0 ≤ s ∧ s ≤ 30) (R : RI h vp p.prns) (V : SumV h sv p s) (hin : prn ∈ p.prns) :
  ACalls C 332 [sv, askA p vp b s, .int .i64 prn] h (fun r h' => r = .int .i64 (thrI p s prn) ∧ h' = h) := by
 refine ACalls.gc0 (P := fun r h' => r = .int .i64 (thrI p s prn) ∧ HSub h h') ?_ (fun r h' hp => ⟨by rw [hp.1]; trivial, hp.2, hp.1, rfl⟩)
 have v1 := R.one
 have lk := fun (H : Heap) => jhT (b := b) (zu hC T334) (h := H) (sv := sv) (vp := vp) (prn := prn) ok hs
 have bd := jb2 ok hs prn
 have p30 := jf4 hs
 have V0 := V
 obtain ⟨j, rfl, gm⟩ := V
 have o1 : (AV.map j).one = true := rfl
 have fd := Int.fdiv_eq_ediv_of_nonneg (boundI p s prn + 2 ^ s.toNat - 1) (show 0 ≤ (2 : Int) ^ s.toNat by omega)
 unfold thrI askA at *
 generalize boundI p s prn = B at *
 generalize p.size = S at *
 generalize humI p s = HM at *
 generalize hP : (2 : Int) ^ s.toNat = P at *
 obtain ⟨d, o, pb, w, mn, mx, nz, prns⟩ := p
 dsimp only at *
 refine zf hC tab332 ?_; simp only [B332]; refine zs4 @wpMap @gm @hP @Int.one_mul ?_
 refine jaa.eq (lk _ (R.mono (zh (HSub.refl h))) (V0.mono (zh (HSub.refl h))) hin) ?_
 refine zs4 @wpMap @hP @fd @Int.one_mul ?_
 exact (zh (HSub.refl h))
end
end Go.Ae
namespace Go.Ae
theorem jr4 (x : Int) : IntKind.u64.wrap x = x % 18446744073709551616 := by
 unfold IntKind.wrap
 rfl
theorem jr5 {a b : Int} (ha : 0 ≤ a ∧ a < 18446744073709551616) (hb : 0 ≤ b ∧ b < 18446744073709551616) :
  0 ≤ a % 4294967296 * (b % 4294967296) ∧ a % 4294967296 * (b % 4294967296) ≤ 18446744065119617025 ∧ 0 ≤ a / 4294967296 * (b % 4294967296) ∧ a / 4294967296 * (b % 4294967296) ≤ 18446744065119617025 ∧
  0 ≤ a % 4294967296 * (b / 4294967296) ∧ a % 4294967296 * (b / 4294967296) ≤ 18446744065119617025 ∧ 0 ≤ a / 4294967296 * (b / 4294967296) ∧ a / 4294967296 * (b / 4294967296) ≤ 18446744065119617025 ∧
  a * b = a / 4294967296 * (b / 4294967296) * 18446744073709551616 + (a / 4294967296 * (b % 4294967296) + a % 4294967296 * (b / 4294967296)) * 4294967296 + a % 4294967296 * (b % 4294967296) := by
 have ea : a = a / 4294967296 * 4294967296 + a % 4294967296 := by omega
 have eb : b = b / 4294967296 * 4294967296 + b % 4294967296 := by omega
 have a1 : 0 ≤ a / 4294967296 ∧ a / 4294967296 ≤ 4294967295 := by omega
 have a0 : 0 ≤ a % 4294967296 ∧ a % 4294967296 ≤ 4294967295 := by omega
 have b1 : 0 ≤ b / 4294967296 ∧ b / 4294967296 ≤ 4294967295 := by omega
 have b0 : 0 ≤ b % 4294967296 ∧ b % 4294967296 ≤ 4294967295 := by omega
 generalize a / 4294967296 = x1 at *
 generalize a % 4294967296 = x0 at *
 generalize b / 4294967296 = y1 at *
 generalize b % 4294967296 = y0 at *
 have pr : ∀ {x y : Int}, 0 ≤ x ∧ x ≤ 4294967295 → 0 ≤ y ∧ y ≤ 4294967295 → 0 ≤ x * y ∧ x * y ≤ 18446744065119617025 := fun hx hy =>
  ⟨Int.mul_nonneg hx.1 hy.1, Int.le_trans (Int.mul_le_mul hx.2 hy.2 hy.1 (by decide)) (by decide)⟩
 have p1 := pr a0 b0
 have p2 := pr a1 b0
 have p3 := pr a0 b1
 have p4 := pr a1 b1
 refine ⟨p1.1, p1.2, p2.1, p2.2, p3.1, p3.2, p4.1, p4.2, ?_⟩
 rw [ea, eb]
 grind
def askErr (p : PlanP) (b s : Int) : Int := if p.err = 0 then gErr b s else p.err
def detErr (p : PlanP) (b s prn : Int) : Int := if askErr p b s = 0 then if prn ∈ p.prns then 0 else 18 else askErr p b s
theorem jda {p : PlanP} {b s : Int} (h : askErr p b s = 0) : PlanOk p ∧ gErr b s = 0 := by
 unfold askErr at h
 split at h
 ·rename_i c; exact ⟨jc9 c, h⟩
 ·contradiction
theorem jep {p : PlanP} {b s prn : Int} (h : detErr p b s prn = 0) : askErr p b s = 0 ∧ prn ∈ p.prns := by
 unfold detErr at h
 split at h
 ·rename_i c
  split at h
  ·rename_i c2; exact ⟨c, c2⟩
  ·cases h
 ·contradiction
section
variable {C : Ctx}
theorem jgV (hC : Has C T105) {a b : Int} {h : Heap} (ha : 0 ≤ a ∧ a < 18446744073709551616) (hb : 0 ≤ b ∧ b < 18446744073709551616) :
  ACalls C 105 [.int .u64 a, .int .u64 b] h (fun r h' => r = .tuple [.int .u64 (a * b / 18446744073709551616), .int .u64 (a * b % 18446744073709551616)] ∧ h' = h) := by
 obtain ⟨p1, p2, p3, p4, p5, p6, p7, p8, e⟩ := jr5 ha hb
 have hi : a * b / 18446744073709551616 = a / 4294967296 * (b / 4294967296) + (a / 4294967296 * (b % 4294967296) + a % 4294967296 * (b % 4294967296) / 4294967296) / 4294967296 +
   ((a / 4294967296 * (b % 4294967296) + a % 4294967296 * (b % 4294967296) / 4294967296) % 4294967296 + a % 4294967296 * (b / 4294967296)) / 4294967296 := by
  rw [e]
  generalize a % 4294967296 * (b % 4294967296) = P0 at *
  generalize a / 4294967296 * (b % 4294967296) = P1 at *
  generalize a % 4294967296 * (b / 4294967296) = P2 at *
  generalize a / 4294967296 * (b / 4294967296) = P3 at *
  omega
 have hr : 0 ≤ a * b / 18446744073709551616 ∧ a * b / 18446744073709551616 ≤ 18446744073709551615 := by
  rw [e]
  generalize a % 4294967296 * (b % 4294967296) = P0 at *
  generalize a / 4294967296 * (b % 4294967296) = P1 at *
  generalize a % 4294967296 * (b / 4294967296) = P2 at *
  generalize a / 4294967296 * (b / 4294967296) = P3 at *
  omega
 rw [hi] at hr
 rw [hi]
 have wl := jr4 (a * b)
 refine zf hC tab105 ?_; simp only [B105]; exact ze2 @jkU @wl
theorem ji1 (hC : Has C T349) {p : PlanP} {vp : AV} {b s : Int} {h : Heap} (R : RI h vp p.prns) (h64 : p.ok64) : ACalls C 349 [askA p vp b s] h (fun r h' => r = .int .i64 p.err ∧ h' = h) := by
 refine ACalls.gc0 (P := fun r h' => r = .int .i64 p.err ∧ HSub h h') ?_ (fun r h' hp => ⟨by rw [hp.1]; trivial, hp.2, hp.1, rfl⟩)
 have v1 := R.one
 have kp := fun H (R1 : RI H vp p.prns) => jcg (zu hC T219) (h := H) (p := p) ⟨vp, rfl, R1⟩ h64
 unfold askA
 refine zf hC tab349 ?_; simp only [B349]; refine zs ?_
 refine jaa.eq (kp _ (R.mono (zh (HSub.refl h)))) ?_
 refine zs ?_
 exact (zh (HSub.refl h))
theorem ji2 (hC : Has C T350) {p : PlanP} {vp : AV} {b s : Int} {h : Heap} (v1 : vp.one = true) : ACalls C 350 [askA p vp b s] h (fun r h' => r = .int .i64 (gErr b s) ∧ h' = h) := by
 refine ACalls.gc0 (P := fun r h' => r = .int .i64 (gErr b s) ∧ HSub h h') ?_ (fun r h' hp => ⟨by rw [hp.1]; trivial, hp.2, hp.1, rfl⟩)
 have kp := fun H => jdR (zu hC T357) (h := H) (b := b) (s := s)
 unfold askA
 unfold gA at kp
 refine zf hC tab350 ?_; simp only [B350]; refine zs ?_
 refine jaa.eq (kp _) ?_
 refine zs ?_
 exact (zh (HSub.refl h))
theorem jhU (hC : Has C T339) {p : PlanP} {vp : AV} {b s : Int} {h : Heap} (R : RI h vp p.prns) (h64 : p.ok64) : ACalls C 339 [askA p vp b s] h (fun r h' => r = .int .i64 (askErr p b s) ∧ h' = h) := by
 refine ACalls.gc0 (P := fun r h' => r = .int .i64 (askErr p b s) ∧ HSub h h') ?_ (fun r h' hp => ⟨by rw [hp.1]; trivial, hp.2, hp.1, rfl⟩)
 have v1 := R.one
 have k1 := fun H (R1 : RI H vp p.prns) => ji1 (b := b) (s := s) (zu hC T349) (h := H) R1 h64
 have k2 := fun H => ji2 (p := p) (vp := vp) (b := b) (s := s) (zu hC T350) (h := H) v1
 have e0 : p.err = 0 → askErr p b s = gErr b s := fun e => by unfold askErr; rw [if_pos e]
 have e1 : p.err ≠ 0 → askErr p b s = p.err := fun e => by unfold askErr; rw [if_neg e]
 generalize askErr p b s = E at *
 generalize p.err = PE at *
 have xA : ∃ A, A = askA p vp b s := ⟨_, rfl⟩
 obtain ⟨A, hA⟩ := xA
 rw [← hA] at k1 k2 ⊢
 refine zf hC tab339 ?_; simp only [B339]; refine zs2 @hA @askA.eq_1 ?_
 refine jab (fun j t h' => HSub h h' ∧ ∃ k : Nat, t 10 = .agg [.func 349 [A] [], .func 350 [A] []] ∧ t 11 = .int .i64 (k : Nat) ∧ k ≤ 2 ∧ (0 < k → PE = 0) ∧ (1 < k → gErr b s = 0) ∧ j = 2 - k) (j0 := 2)
  ⟨(zh (HSub.refl h)), 0, by rw [hA]; rfl, rfl, by omega, by omega, by omega, rfl⟩ ?_
 rintro j t h' ⟨sH, k, e10, e11, hk, q1, q2, hj⟩
 rcases (show k = 0 ∨ k = 1 ∨ k = 2 by omega) with rfl | rfl | rfl
 ·refine zs3 @e10 @e11 @jax ?_
  refine jaa.eq (k1 _ (R.mono sH)) ?_
  by_cases c : PE = 0
  ·refine zs3 @c @e10 @e11 ?_
   exact ⟨1, ⟨sH, 1, by omega, by omega, by omega, rfl⟩, by omega⟩
  ·refine zs3 @c @e10 @e11 ?_
   exact ⟨by rw [e1 c], sH⟩
 ·refine zs3 @e10 @e11 @jax ?_
  refine jaa.eq (k2 _) ?_
  rcases jeU b s with c | c
  ·refine zs3 @c @e10 @e11 ?_
   have q := q1 (by omega)
   exact ⟨0, ⟨sH, 2, by omega, by omega, by omega, rfl⟩, by omega⟩
  ·refine zs3 @c @e10 @e11 ?_
   exact ⟨by rw [e0 (q1 (by omega)), c], sH⟩
 ·refine zs2 @e10 @e11 ?_
  exact ⟨by rw [e0 (q1 (by omega)), q2 (by omega)], sH⟩
set_option maxHeartbeats 1000000 in
set_option maxRecDepth 20000 in
theorem jhV (hC : Has C T331) {p : PlanP} {vp : AV} {b s prn : Int} {h : Heap} (R : RI h vp p.prns) (h64 : p.ok64) :
  ACalls C 331 [plA p vp, gA b s, .int .i64 prn] h (fun r h' => HSub h h' ∧ ∃ sv, r = .tuple [askA p vp b s, sv, .int .i64 (detErr p b s prn)] ∧ (∃ a1 a2 a3, sv = .agg [a1, a2, a3] ∧ [a1, a2, a3].all AV.one = true) ∧ (detErr p b s prn = 0 → SumV h' sv p s)) := by
 have v1 := R.one
 have kc := fun H (R1 : RI H vp p.prns) => jhU (b := b) (s := s) (zu hC T339) (h := H) R1 h64
 have kn := fun (ok : PlanOk p) (hg : gErr b s = 0) H (R1 : RI H vp p.prns) => jhQ (zu hC T340) (h := H) ok hg h64 R1
 have e0 : askErr p b s ≠ 0 → detErr p b s prn = askErr p b s := fun e => by unfold detErr; rw [if_neg e]
 have e1 : askErr p b s = 0 → detErr p b s prn = if prn ∈ p.prns then 0 else 18 := fun e => by unfold detErr; rw [if_pos e]
 have o0 : AV.nilmap.one = true := rfl
 generalize detErr p b s prn = E at *
 unfold askA at kc kn
 unfold plA gA askA
 by_cases c : askErr p b s = 0
 ·obtain ⟨ok, hg⟩ := jda c
  rw [c] at kc
  have e1 := e1 c
  clear e0
  obtain ⟨d, o, pb, w, mn, mx, nz, prns⟩ := p
  dsimp only at *
  refine zf hC tab331 ?_; simp only [B331]; refine zs2 @o0 @wpMap ?_
  refine jaa.eq (kc _ (R.mono (zh (HSub.refl h)))) ?_
  refine zs1 @wpMap ?_
  refine jaa.of (kn ok hg _ (R.mono (zh (HSub.refl h)))) ?_
  rintro r h2 ⟨V, sA⟩
  obtain ⟨j, rfl, gm⟩ := V
  have o1 : (AV.map j).one = true := rfl
  have z2 := sA.size
  simp only [Heap.size_push] at z2
  have jl := Heap.lt_of_get gm
  have g9 : h2.get (h.size + 4) = some (.cells [.int .i64 d, .int .i64 o, .int .i64 pb, .int .i64 w, .int .i64 mn, .int .i64 mx, .int .i64 nz, vp, .int .i64 b, .int .i64 s] true 0) := (sA.get _ (by simp only [Heap.size_push]; omega)).trans (by exact ze)
  have g6 : h2.get (h.size + 2) = some (.cells [.int .i64 0, .int .i64 0, .int .i64 0, .int .i64 0, .int .i64 0, .int .i64 0, .int .i64 0, .nilslice, .int .i64 0, .int .i64 0] true 0) := (sA.get _ (by simp only [Heap.size_push]; omega)).trans (by exact ze)
  have g7 : h2.get (h.size + 3) = some (.cells [.nilmap, .int .i64 0, .int .i64 0] true 0) := (sA.get _ (by simp only [Heap.size_push]; omega)).trans (by exact ze)
  have hs2 : HSub h h2 := (show HSub h _ from (zh (HSub.refl h))).trans sA
  clear sA kn
  by_cases ci : prn ∈ prns
  ·have lk := jp3 (f := sumI d o) (z := .int .i64 0) (jen.2 ⟨ci, ci⟩)
   simp only [keyP, ksP] at lk
   rw [if_pos ci] at e1
   subst e1
   have n6 : j ≠ h.size + 2 := by rintro rfl; rw [g6] at gm; cases gm
   have n7 : j ≠ h.size + 3 := by rintro rfl; rw [g7] at gm; cases gm
   refine zs6 @wpMap @gm @lk @g9 @g6 @g7 ?_
   exact ⟨(zh hs2), _, rfl, ⟨_, _, _, rfl, rfl⟩, fun _ => ⟨j, rfl, by rw [jai (by simp only [Heap.size_put]; omega), jae (by omega), jae (by omega)]; exact gm⟩⟩
  ·have lk := jox (f := sumI d o) (x := prn) (y := prn) (K := grid prns prns) (z := .int .i64 0) (fun q => ci (jen.1 q).1)
   simp only [keyP, ksP] at lk
   rw [if_neg ci] at e1
   subst e1
   refine zs6 @wpMap @gm @lk @g9 @g6 @g7 ?_
   exact ⟨(zh hs2), _, rfl, _, _, _, rfl, rfl⟩
 ·rw [e0 c]
  have e2 : askErr p b s = 0 → False := c
  generalize askErr p b s = AE at *
  obtain ⟨d, o, pb, w, mn, mx, nz, prns⟩ := p
  dsimp only at *
  refine zf hC tab331 ?_; simp only [B331]; refine zs2 @o0 @wpMap ?_
  refine jaa.eq (kc _ (R.mono (zh (HSub.refl h)))) ?_
  refine zs2 @c @wpMap ?_
  exact ⟨(zh (HSub.refl h)), _, rfl, _, _, _, rfl, rfl⟩
end
end Go.Ae
namespace Go.Ae
def claimB (t pw m : Int) : Bool := decide (t * t * m < pw)
def jdz (p : PlanP) (b s prn pw m : Int) : AV :=
 if detErr p b s prn = 0 then if pw < 0 ∨ m < 1 ∨ 1000 < m then .tuple [.bool false, .int .i64 2] else .tuple [.bool (claimB (thrI p s prn) pw m), .int .i64 0] else .tuple [.bool false, .int .i64 (detErr p b s prn)]
theorem em_of {q : Int} (h : 0 ≤ q) (c : q / 18446744073709551616 = 0) : q % 18446744073709551616 = q := by omega
theorem jr6 {q m pw : Int} (h : 0 ≤ q * m) (hp : -9223372036854775808 ≤ pw ∧ pw ≤ 9223372036854775807) (e : q % 18446744073709551616 = q) :
  (q % 18446744073709551616 * m / 18446744073709551616 = 0 → q % 18446744073709551616 * m % 18446744073709551616 = q * m) ∧ (¬ q % 18446744073709551616 * m / 18446744073709551616 = 0 → ¬ q * m < pw) := by
 rw [e]
 generalize q * m = Y at *
 omega
theorem jr7 {q m pw : Int} (h : 0 ≤ q) (h2 : q ≤ q * m) (hp : -9223372036854775808 ≤ pw ∧ pw ≤ 9223372036854775807) (c : ¬ q / 18446744073709551616 = 0) : ¬ q * m < pw := by
 generalize q * m = Y at *
 omega
section
variable {C : Ctx}
set_option maxRecDepth 20000 in
set_option maxHeartbeats 1000000 in
theorem jks (hC : Has C T313) {p : PlanP} {vp : AV} {b s prn pw m : Int} {h : Heap} (R : RI h vp p.prns) (h64 : p.ok64) (hpw : In64 pw) (hm : In64 m) :
  ACalls C 313 [plA p vp, gA b s, .int .i64 prn, .int .i64 pw, .int .i64 m] h (fun r h' => r = jdz p b s prn pw m ∧ HSub h h') := by
 have v1 := R.one
 have kr := fun H (R1 : RI H vp p.prns) => jhV (b := b) (s := s) (prn := prn) (zu hC T331) (h := H) R1 h64
 have kt := fun (ok : PlanOk p) (hs : 0 ≤ s ∧ s ≤ 30) H sv (R1 : RI H vp p.prns) (V : SumV H sv p s) (hin : prn ∈ p.prns) => jkr (b := b) (zu hC T332) (h := H) ok hs R1 V hin
 have e0 : detErr p b s prn = 0 → askErr p b s = 0 ∧ prn ∈ p.prns := jep
 have tr := fun (ok : PlanOk p) (hs : 0 ≤ s ∧ s ≤ 30) => jiZ ok hs prn
 unfold jdz claimB
 unfold In64 at hpw hm
 generalize detErr p b s prn = E at *
 unfold askA plA gA at *
 by_cases c : E = 0
 ·subst c
  obtain ⟨ea, hin⟩ := e0 rfl
  obtain ⟨ok, hg⟩ := jda ea
  have hs := (jbJ hg).2.2
  have kt := fun H sv R1 V => kt ok hs H sv R1 V hin
  have tr := tr ok hs
  generalize thrI p s prn = Th at *
  clear e0 ea
  have k1 := fun H => jgV (zu hC T105) (a := Th) (b := Th) (h := H) (by omega) (by omega)
  have sq := Int.mul_nonneg tr.1 tr.1
  have lo : 0 ≤ Th * Th % 18446744073709551616 ∧ Th * Th % 18446744073709551616 < 18446744073709551616 := by omega
  have hi : 0 ≤ Th * Th / 18446744073709551616 ∧ Th * Th / 18446744073709551616 ≤ 18446744073709551615 := by
   have := Int.mul_le_mul tr.2 tr.2 tr.1 (by decide)
   generalize Th * Th = q at *
   omega
  have k2 := fun (hm1 : 1 ≤ m ∧ m ≤ 1000) H => jgV (zu hC T105) (a := Th * Th % 18446744073709551616) (b := m) (h := H) lo (by omega)
  obtain ⟨d, o, pb, w, mn, mx, nz, prns⟩ := p
  dsimp only at *
  refine zf hC tab313 ?_; simp only [B313]; refine zs ?_
  refine jaa.of (kr _ (R.mono (zh (HSub.refl h)))) ?_
  rintro r h2 ⟨sA, sv, rfl, ⟨a1, a2, a3, rfl, o1⟩, V⟩
  have V := V rfl
  have z2 := sA.size
  simp only [Heap.size_push] at z2
  have g4 : h2.get (h.size + 1) = some (.cells [.int .i64 b, .int .i64 s] true 0) := (sA.get _ (by simp only [Heap.size_push]; omega)).trans (by exact ze)
  have hs2 : HSub h h2 := (show HSub h _ from (zh (HSub.refl h))).trans sA
  by_cases c1 : pw < 0
  ·refine zs3 @wpMap @c1 @gV_u ?_
   exact ⟨by simp, (zh hs2)⟩
  by_cases c2 : m < 1
  ·refine zs4 @wpMap @c1 @c2 @gV_u ?_
   exact ⟨by simp, (zh hs2)⟩
  by_cases c3 : 1000 < m
  ·refine zs5 @wpMap @c1 @c2 @c3 @gV_u ?_
   exact ⟨by simp, (zh hs2)⟩
  have k2 := k2 (by omega)
  have m1 := Int.mul_nonneg sq (show 0 ≤ m by omega)
  have m2 := Int.mul_le_mul (Int.le_refl (Th * Th)) (show 1 ≤ m by omega) (by decide) sq
  rw [Int.mul_one] at m2
  have lx := em_of sq
  have wr := fun e => jr6 (q := Th * Th) (m := m) (pw := pw) m1 hpw e
  have wn := jr7 (pw := pw) sq m2 hpw
  refine zs5 @wpMap @c1 @c2 @c3 @gV_u ?_
  refine jaa.eq (kt _ _ (R.mono (zh hs2)) (V.mono (zh (HSub.refl h2)))) ?_
  refine zs ?_
  refine jaa.eq (k1 _) ?_
  by_cases c4 : Th * Th / 18446744073709551616 = 0
  ·refine zs1 @c4 ?_
   refine jaa.eq (k2 _) ?_
   have lx := lx c4
   by_cases c5 : Th * Th % 18446744073709551616 * m / 18446744073709551616 = 0
   ·have ly := (wr lx).1 c5
    refine zs3 @c5 @ly @gV_u ?_
    exact ⟨by simp [c1, c2, c3], (zh hs2)⟩
   ·have ny := (wr lx).2 c5
    refine zs2 @c5 @gV_u ?_
    exact ⟨by simp [c1, c2, c3, ny], (zh hs2)⟩
  ·have ny := wn c4
   refine zs1 @c4 ?_
   exact ⟨by simp [c1, c2, c3, ny], (zh hs2)⟩
 ·obtain ⟨d, o, pb, w, mn, mx, nz, prns⟩ := p
  dsimp only at *
  refine zf hC tab313 ?_; simp only [B313]; refine zs ?_
  refine jaa.of (kr _ (R.mono (zh (HSub.refl h)))) ?_
  rintro r h2 ⟨sA, sv, rfl, ⟨a1, a2, a3, rfl, o1⟩, V⟩
  have hs2 : HSub h h2 := (show HSub h _ from (zh (HSub.refl h))).trans sA
  refine zs2 @wpMap @c ?_
  exact ⟨by simp, (zh hs2)⟩
end
end Go.Ae
namespace Go.Ae
theorem PlanOk.cross {p : PlanP} (ok : PlanOk p) {a b : Int} (ha : a ∈ p.prns) (hb : b ∈ p.prns) (hne : ¬ b = a) : jkY p.d p.o a b = tup2 (sumI p.d p.o a b) 0 := by
 unfold jkY sumI
 rw [if_pos (ok.samp (by simp [ha, hb])), if_neg (fun e => hne e.symm)]
theorem PlanOk.side {p : PlanP} (ok : PlanOk p) {a : Int} (ha : a ∈ p.prns) : sideE p.d p.o a = tup2 (sumI p.d p.o a a) 0 := by
 unfold sideE sumI
 rw [if_pos (ok.samp (by simp [ha])), if_pos rfl]
section
variable {C : Ctx}
theorem jhW (hC : Has C T343) {p : PlanP} {vp : AV} {b s : Int} {h : Heap} (R : RI h vp p.prns) (h64 : p.ok64) : ACalls C 343 [plA p vp, gA b s] h (fun r h' => r = .int .i64 (askErr p b s) ∧ h' = h) := by
 refine ACalls.gc0 (P := fun r h' => r = .int .i64 (askErr p b s) ∧ HSub h h') ?_ (fun r h' hp => ⟨by rw [hp.1]; trivial, hp.2, hp.1, rfl⟩)
 have v1 := R.one
 have kp := fun H (R1 : RI H vp p.prns) => jb1 (zu hC T220) (h := H) (p := p) ⟨vp, rfl, R1⟩ h64
 have kg := fun H => jdS (zu hC T352) (h := H) (b := b) (s := s)
 unfold askErr
 unfold plA
 unfold gA at *
 by_cases c : p.err = 0
 ·rw [if_pos c]
  rw [c] at kp
  refine zf hC tab343 ?_; simp only [B343]; refine zs ?_
  refine jaa.eq (kp _ (R.mono (zh (HSub.refl h)))) ?_
  refine zs ?_
  refine jaa.eq (kg _) ?_
  refine zs ?_
  exact (zh (HSub.refl h))
 ·rw [if_neg c]
  refine zf hC tab343 ?_; simp only [B343]; refine zs ?_
  refine jaa.eq (kp _ (R.mono (zh (HSub.refl h)))) ?_
  refine zs1 @c ?_
  exact (zh (HSub.refl h))
theorem jhX (hC : Has C T335) {p : PlanP} {vp : AV} {b s prn : Int} {h : Heap} (R : RI h vp p.prns) (h64 : p.ok64) : ACalls C 335 [plA p vp, gA b s, .int .i64 prn] h (fun r h' => r = .int .i64 (detErr p b s prn) ∧ h' = h) := by
 refine ACalls.gc0 (P := fun r h' => r = .int .i64 (detErr p b s prn) ∧ HSub h h') ?_ (fun r h' hp => ⟨by rw [hp.1]; trivial, hp.2, hp.1, rfl⟩)
 have v1 := R.one
 have kp := fun H (R1 : RI H vp p.prns) => jhW (zu hC T343) (h := H) (p := p) (b := b) (s := s) R1 h64
 have e0 : askErr p b s ≠ 0 → detErr p b s prn = askErr p b s := fun e => by unfold detErr; rw [if_neg e]
 have e1 : askErr p b s = 0 → prn ∈ p.prns → detErr p b s prn = 0 := fun e m => by unfold detErr; rw [if_pos e, if_pos m]
 have e2 : askErr p b s = 0 → prn ∉ p.prns → detErr p b s prn = 18 := fun e m => by unfold detErr; rw [if_pos e, if_neg m]
 have hlt := R.lt
 generalize detErr p b s prn = E at *
 generalize askErr p b s = AE at *
 unfold plA gA at *
 by_cases c : AE = 0
 ·rw [c] at kp
  refine zf hC tab335 ?_; simp only [B335]; refine zs ?_
  refine jaa.eq (kp _ (R.mono (zh (HSub.refl h)))) ?_
  refine zs ?_
  refine jab (fun j t h' => HSub h h' ∧ h'.get h.size = some (.cells [.int .i64 p.d, .int .i64 p.o, .int .i64 p.pb, .int .i64 p.w, .int .i64 p.mn, .int .i64 p.mx, .int .i64 p.nz, vp] true 0) ∧ ∃ k : Nat, t 2 = .int .i64 prn ∧ t 3 = .ptr h.size 0 ∧ t 8 = .int .i64 (k : Nat) ∧ k ≤ p.prns.length ∧ (∀ i, i < k → p.prns.getD i 0 ≠ prn) ∧ j = p.prns.length - k) (j0 := p.prns.length)
   ⟨(zh (HSub.refl h)), by exact ze, 0, rfl, rfl, rfl, by omega, by omega, rfl⟩ ?_
  rintro j t h1 ⟨sH, gP, k, e2', e3, e8, hk, hb, hj⟩
  have R1 := R.mono sH
  refine zs5 @e2' @e3 @e8 @gP @R1.len ?_
  refine Br.by (fun c1 => ?_) (fun c1 => ?_)
  ·have hk' : k < p.prns.length := by omega
   refine zs6 @e2' @e3 @e8 @gP @R1.idx (R1.load hk') ?_
   refine Br.by (fun c2 => ?_) (fun c2 => ?_)
   ·refine zs ?_
    exact ⟨by rw [e1 c (c2 ▸ jal hk')], sH⟩
   ·refine zs4 @e2' @e3 @e8 @gP ?_
    refine ⟨_, ⟨sH, k + 1, by omega, by omega, fun i hi => ?_, rfl⟩, by omega⟩
    rcases Nat.lt_or_ge i k with x | x
    ·exact hb i x
    ·obtain rfl : i = k := by omega
     exact c2
  ·obtain rfl : k = p.prns.length := by omega
   refine zs ?_
   refine ⟨by rw [e2 c]; intro hm; obtain ⟨i, hi, e⟩ := List.mem_iff_getElem.1 hm; exact hb i hi (by rw [List.getD_eq_getElem?_getD, List.getElem?_eq_getElem hi]; exact e), sH⟩
 ·rw [e0 c]
  refine zf hC tab335 ?_; simp only [B335]; refine zs ?_
  refine jaa.eq (kp _ (R.mono (zh (HSub.refl h)))) ?_
  refine zs1 @c ?_
  exact (zh (HSub.refl h))
set_option maxRecDepth 20000 in
theorem jgn (hC : Has C T336) {p : PlanP} {vp : AV} {prn : Int} {h : Heap} (ok : PlanOk p) (R : RI h vp p.prns) (h64 : p.ok64) (hin : prn ∈ p.prns) : ACalls C 336 [plA p vp, .int .i64 prn] h (fun r h' => r = .int .i64 (p.oth prn) ∧ h' = h) := by
 refine ACalls.gc0 (P := fun r h' => r = .int .i64 (p.oth prn) ∧ HSub h h') ?_ (fun r h' hp => ⟨by rw [hp.1]; trivial, hp.2, hp.1, rfl⟩)
 have v1 := R.one
 have l8 := ok.len
 have kx := fun (k : Nat) (hk : k < p.prns.length) (hne : ¬ p.prns.getD k 0 = prn) H => jj3 (zu hC T177) (h := H) h64.1 h64.2.1 (h64.2.2.2.2.2.2.2 prn hin) (h64.2.2.2.2.2.2.2 _ (jal hk))
 have kx2 := fun (k : Nat) (hk : k < p.prns.length) (hne : ¬ p.prns.getD k 0 = prn) => ok.cross hin (jal hk) hne
 have sr := fun a b => jbn ok.nums a b
 have rg := fun k => jdn sr (prn := prn) (ps := p.prns) k
 have os : ∀ k, othK (sumI p.d p.o) prn p.prns (k + 1) = othK (sumI p.d p.o) prn p.prns k + if p.prns.getD k 0 = prn then 0 else sumI p.d p.o prn (p.prns.getD k 0) := fun k => rfl
 unfold PlanP.oth plA
 generalize sumI p.d p.o = f at *
 clear h64 ok
 obtain ⟨d, o, pb, w, mn, mx, nz, prns⟩ := p
 dsimp only at *
 refine zf hC tab336 ?_; simp only [B336]; refine zs ?_
 refine jab (fun j t h' => HSub h h' ∧ h'.get h.size = some (.cells [.int .i64 d, .int .i64 o, .int .i64 pb, .int .i64 w, .int .i64 mn, .int .i64 mx, .int .i64 nz, vp] true 0) ∧ ∃ k : Nat, t 1 = .int .i64 prn ∧ t 2 = .ptr h.size 0 ∧ t 5 = .int .i64 (othK f prn prns k) ∧ t 6 = .int .i64 (k : Nat) ∧ k ≤ prns.length ∧ j = prns.length - k) (j0 := prns.length)
  ⟨(zh (HSub.refl h)), by exact ze, 0, rfl, rfl, rfl, rfl, by omega, rfl⟩ ?_
 rintro j t h1 ⟨sH, gP, k, e1, e2, e5, e6, hk, hj⟩
 have R1 := R.mono sH
 refine zs6 @e1 @e2 @e5 @e6 @gP @R1.len ?_
 refine Br.by (fun c1 => ?_) (fun c1 => ?_)
 ·have hk' : k < prns.length := by omega
  have kx := kx k hk'
  have kx2 := kx2 k hk'
  have os := os k
  have rk := rg k
  have sr := sr prn (prns.getD k 0)
  have xq : ∃ q, q = prns.getD k 0 := ⟨_, rfl⟩
  obtain ⟨q, hq⟩ := xq
  have lk := R1.load hk'
  rw [← hq] at kx kx2 os sr lk
  by_cases c2 : q = prn
  ·rw [if_pos c2, Int.add_zero] at os
   refine zs8 @e1 @e2 @e5 @e6 @gP @R1.idx @lk @c2 ?_
   exact ⟨_, ⟨sH, k + 1, by rw [os], by omega, by omega, rfl⟩, by omega⟩
  ·rw [if_neg c2] at os
   have kx2 := kx2 c2
   rw [kx2] at kx
   refine zs8 @e1 @e2 @e5 @e6 @gP @R1.idx @lk @c2 ?_
   refine jaa.of (kx c2 _) ?_
   rintro r h2 ⟨rfl, s2⟩
   refine zs5 @tup2.eq_1 @e1 @e2 @e5 @e6 ?_
   exact ⟨_, ⟨sH.trans s2, (s2.get _ (Heap.lt_of_get gP)).trans gP, k + 1, by rw [os], by omega, by omega, rfl⟩, by omega⟩
 ·obtain rfl : k = prns.length := by omega
  refine zs1 @e5 ?_
  exact sH
set_option maxRecDepth 20000 in
theorem jkt (hC : Has C T337) {p : PlanP} {vp : AV} {b s : Int} {h : Heap} (ok : PlanOk p) (hg : gErr b s = 0) (v1 : vp.one = true) : ACalls C 337 [plA p vp, gA b s] h (fun r h' => r = .int .i64 (humI p s) ∧ h' = h) := by
 refine ACalls.gc0 (P := fun r h' => r = .int .i64 (humI p s) ∧ HSub h h') ?_ (fun r h' hp => ⟨by rw [hp.1]; trivial, hp.2, hp.1, rfl⟩)
 have kc := fun H => jiX (zu hC T348) (h := H) (b := b) (s := s)
 have ks := fun H => jbH (zu hC T244) (h := H) (p := p) ok.nums v1
 unfold coarE at kc
 rw [if_pos hg] at kc
 have hr := jf7 ok (jbJ hg).2.2
 have cr := jdm (jbJ hg).2.2
 have nr := ok.nums.2.2.2.2.2.2
 unfold humI
 unfold plA gA at *
 generalize p.size = S at *
 generalize coarI s = cs at *
 obtain ⟨d, o, pb, w, mn, mx, nz, prns⟩ := p
 dsimp only at *
 refine zf hC tab337 ?_; simp only [B337]; refine zs ?_
 refine jaa.eq (kc _) ?_
 refine zs1 @tup2.eq_1 ?_
 refine jaa.eq (ks _) ?_
 refine zs ?_
 exact (zh (HSub.refl h))
set_option maxRecDepth 20000 in
theorem jku (hC : Has C T316) {p : PlanP} {vp : AV} {b s prn : Int} {h : Heap} (R : RI h vp p.prns) (h64 : p.ok64) :
  ACalls C 316 [plA p vp, gA b s, .int .i64 prn] h (fun r h' => r = (if detErr p b s prn = 0 then tup2 (boundI p s prn) 0 else tup2 0 (detErr p b s prn)) ∧ h' = h) := by
 refine ACalls.gc0 (P := fun r h' => r = (if detErr p b s prn = 0 then tup2 (boundI p s prn) 0 else tup2 0 (detErr p b s prn)) ∧ HSub h h') ?_ (fun r h' hp => ⟨by rw [hp.1]; unfold tup2; split <;> exact ⟨trivial, trivial, trivial⟩, hp.2, hp.1, rfl⟩)
 have v1 := R.one
 have kc := fun H (R1 : RI H vp p.prns) => jhX (zu hC T335) (h := H) (p := p) (b := b) (s := s) (prn := prn) R1 h64
 have e0 : detErr p b s prn = 0 → askErr p b s = 0 ∧ prn ∈ p.prns := jep
 generalize detErr p b s prn = E at *
 by_cases c : E = 0
 ·subst c
  obtain ⟨ea, hin⟩ := e0 rfl
  obtain ⟨ok, hg⟩ := jda ea
  have ks := fun H => jmd (zu hC T176) (h := H) h64.1 h64.2.1 (h64.2.2.2.2.2.2.2 prn hin)
  rw [ok.side hin] at ks
  have ko := fun H (R1 : RI H vp p.prns) => jgn (zu hC T336) (h := H) ok R1 h64 hin
  have kh := fun H => jkt (zu hC T337) (h := H) ok hg v1
  have bd := jb2 ok (jbJ hg).2.2 prn
  have m1 := jbn ok.nums prn prn
  have m2 := jeo ok prn
  have m3 := jhR ok (x := sumI p.d p.o prn prn + p.oth prn) (by omega)
  have m4 := ok.nums.2.2.2.2
  rw [if_pos rfl]
  unfold boundI at *
  unfold plA gA at *
  clear e0 ea ok
  generalize p.oth prn = O at *
  generalize sumI p.d p.o prn prn = SI1 at *
  generalize humI p s = HM at *
  clear h64
  obtain ⟨d, o, pb, w, mn, mx, nz, prns⟩ := p
  dsimp only at *
  refine zf hC tab316 ?_; simp only [B316]; refine zs ?_
  refine jaa.eq (kc _ (R.mono (zh (HSub.refl h)))) ?_
  refine zs ?_
  refine jaa.of (ks _) ?_
  rintro r h2 ⟨rfl, sA⟩
  have z2 := sA.size
  simp only [Heap.size_push] at z2
  have g3 : h2.get h.size = some (.cells [.int .i64 d, .int .i64 o, .int .i64 pb, .int .i64 w, .int .i64 mn, .int .i64 mx, .int .i64 nz, vp] true 0) := (sA.get _ (by simp only [Heap.size_push]; omega)).trans (by exact ze)
  have g4 : h2.get (h.size + 1) = some (.cells [.int .i64 b, .int .i64 s] true 0) := (sA.get _ (by simp only [Heap.size_push]; omega)).trans (by exact ze)
  have hs2 : HSub h h2 := (show HSub h _ from (zh (HSub.refl h))).trans sA
  refine zs3 @tup2.eq_1 @g3 @g4 ?_
  refine jaa.eq (ko _ (R.mono (zh hs2))) ?_
  refine zs2 @g3 @g4 ?_
  refine jaa.eq (kh _) ?_
  refine zs ?_
  exact ⟨rfl, (zh hs2)⟩
 ·obtain ⟨d, o, pb, w, mn, mx, nz, prns⟩ := p
  unfold plA gA at *
  dsimp only at *
  refine zf hC tab316 ?_; simp only [B316]; refine zs ?_
  refine jaa.eq (kc _ (R.mono (zh (HSub.refl h)))) ?_
  refine zs1 @c ?_
  exact ⟨by simp [tup2], (zh (HSub.refl h))⟩
set_option maxRecDepth 20000 in
theorem jdb (hC : Has C T318) {p : PlanP} {vp : AV} {b s prn : Int} {h : Heap} (R : RI h vp p.prns) (h64 : p.ok64) :
  ACalls C 318 [plA p vp, gA b s, .int .i64 prn] h (fun r h' => r = (if detErr p b s prn = 0 then tup2 (thrI p s prn) 0 else tup2 0 (detErr p b s prn)) ∧ h' = h) := by
 refine ACalls.gc0 (P := fun r h' => r = (if detErr p b s prn = 0 then tup2 (thrI p s prn) 0 else tup2 0 (detErr p b s prn)) ∧ HSub h h') ?_ (fun r h' hp => ⟨by rw [hp.1]; unfold tup2; split <;> exact ⟨trivial, trivial, trivial⟩, hp.2, hp.1, rfl⟩)
 have v1 := R.one
 have kc := fun H (R1 : RI H vp p.prns) => jku (zu hC T316) (h := H) (p := p) (b := b) (s := s) (prn := prn) R1 h64
 have e0 : detErr p b s prn = 0 → askErr p b s = 0 ∧ prn ∈ p.prns := jep
 generalize detErr p b s prn = E at *
 by_cases c : E = 0
 ·subst c
  obtain ⟨ea, hin⟩ := e0 rfl
  obtain ⟨ok, hg⟩ := jda ea
  have bd := jb2 ok (jbJ hg).2.2 prn
  have p30 := jf4 (jbJ hg).2.2
  have gs := (jbJ hg).2.2
  rw [if_pos rfl] at kc
  rw [if_pos rfl]
  unfold thrI
  unfold plA gA at *
  have fd := Int.fdiv_eq_ediv_of_nonneg (boundI p s prn + 2 ^ s.toNat - 1) (show 0 ≤ (2 : Int) ^ s.toNat by omega)
  clear e0 ea ok h64
  generalize boundI p s prn = B at *
  generalize hP : (2 : Int) ^ s.toNat = P at *
  obtain ⟨d, o, pb, w, mn, mx, nz, prns⟩ := p
  dsimp only at *
  refine zf hC tab318 ?_; simp only [B318]; refine zs2 @hP @Int.one_mul ?_
  refine jaa.eq (kc _ (R.mono (zh (HSub.refl h)))) ?_
  refine zs4 @tup2.eq_1 @hP @fd @Int.one_mul ?_
  exact (zh (HSub.refl h))
 ·rw [if_neg c] at kc
  obtain ⟨d, o, pb, w, mn, mx, nz, prns⟩ := p
  unfold plA gA at *
  dsimp only at *
  refine zf hC tab318 ?_; simp only [B318]; refine zs ?_
  refine jaa.eq (kc _ (R.mono (zh (HSub.refl h)))) ?_
  refine zs2 @tup2.eq_1 @c ?_
  exact ⟨by simp, (zh (HSub.refl h))⟩
theorem ji3 {t pw m : Int} (ht : 0 ≤ t ∧ t < 3000000000) (hm : 1 ≤ m) : (0 < pw ∧ t * t ≤ (pw - 1) / m) ↔ t * t * m < pw := by
 have sq := Int.mul_nonneg ht.1 ht.1
 have q := Int.mul_nonneg sq (show 0 ≤ m by omega)
 rw [Int.le_ediv_iff_mul_le (by omega)]
 generalize t * t * m = Y at *
 omega
set_option maxRecDepth 20000 in
theorem ji4 (hC : Has C T333) {t pw m : Int} {h : Heap} (ht : 0 ≤ t ∧ t < 3000000000) (hpw : In64 pw) (hm : 1 ≤ m ∧ m ≤ 1000) :
  ACalls C 333 [.int .i64 t, .int .i64 pw, .int .i64 m] h (fun r h' => r = .bool (claimB t pw m) ∧ h' = h) := by
 have ex := ji3 (pw := pw) ht hm.1
 have sq := Int.mul_nonneg ht.1 ht.1
 have sq2 := Int.mul_le_mul (show t ≤ 2999999999 by omega) (show t ≤ 2999999999 by omega) ht.1 (by decide)
 have sq3 : t * t ≤ 8999999994000000001 := sq2
 unfold claimB
 unfold In64 at hpw
 by_cases c1 : 0 < pw
 ·have dv : 0 ≤ (pw - 1) / m ∧ (pw - 1) / m ≤ pw - 1 := ⟨Int.ediv_nonneg (by omega) (by omega), Int.ediv_le_self _ (by omega)⟩
  have td : (pw - 1).tdiv m = (pw - 1) / m := Int.tdiv_eq_ediv_of_nonneg (by omega)
  have e : decide (t * t * m < pw) = decide (t * t ≤ (pw - 1) / m) := by
   rw [decide_eq_decide, ← ex]
   exact ⟨fun q => q.2, fun q => ⟨c1, q⟩⟩
  rw [e]
  clear ex e
  refine zf hC tab333 ?_; simp only [B333]; exact ze3 @c1 @gV_u @td
 ·have e : decide (t * t * m < pw) = false := by
   rw [decide_eq_false_iff_not, ← ex]
   exact fun q => c1 q.1
  rw [e]
  refine zf hC tab333 ?_; simp only [B333]; exact ze2 @c1 @gV_u
set_option maxRecDepth 20000 in
theorem ji5 (hC : Has C T314) {p : PlanP} {vp : AV} {b s prn pw m : Int} {h : Heap} (R : RI h vp p.prns) (h64 : p.ok64) (hpw : In64 pw) (hm : In64 m) (ht : detErr p b s prn = 0 → thrI p s prn < 3000000000) :
  ACalls C 314 [plA p vp, gA b s, .int .i64 prn, .int .i64 pw, .int .i64 m] h (fun r h' => r = jdz p b s prn pw m ∧ h' = h) := by
 refine ACalls.gc0 (P := fun r h' => r = jdz p b s prn pw m ∧ HSub h h') ?_ (fun r h' hp => ⟨by rw [hp.1]; unfold jdz; (repeat' split) <;> exact ⟨trivial, trivial, trivial⟩, hp.2, hp.1, rfl⟩)
 have v1 := R.one
 have kt := fun H (R1 : RI H vp p.prns) => jdb (zu hC T318) (h := H) (p := p) (b := b) (s := s) (prn := prn) R1 h64
 have e0 : detErr p b s prn = 0 → askErr p b s = 0 ∧ prn ∈ p.prns := jep
 have tr := fun (ok : PlanOk p) (hs : 0 ≤ s ∧ s ≤ 30) => jiZ ok hs prn
 unfold jdz
 generalize detErr p b s prn = E at *
 by_cases c : E = 0
 ·subst c
  obtain ⟨ea, hin⟩ := e0 rfl
  obtain ⟨ok, hg⟩ := jda ea
  have tr := tr ok (jbJ hg).2.2
  have ht := ht rfl
  rw [if_pos rfl] at kt
  rw [if_pos rfl]
  unfold plA gA at *
  clear e0 ea ok h64
  generalize thrI p s prn = Th at *
  have kx := fun (hm : 1 ≤ m ∧ m ≤ 1000) H => ji4 (zu hC T333) (h := H) (t := Th) (pw := pw) (m := m) ⟨tr.1, ht⟩ hpw hm
  unfold In64 at hpw hm
  obtain ⟨d, o, pb, w, mn, mx, nz, prns⟩ := p
  dsimp only at *
  refine zf hC tab314 ?_; simp only [B314]; refine zs ?_
  refine jaa.eq (kt _ (R.mono (zh (HSub.refl h)))) ?_
  by_cases c1 : pw < 0
  ·refine zs3 @tup2.eq_1 @c1 @gV_u ?_
   exact ⟨by simp, (zh (HSub.refl h))⟩
  by_cases c2 : m < 1
  ·refine zs4 @tup2.eq_1 @c1 @c2 @gV_u ?_
   exact ⟨by simp, (zh (HSub.refl h))⟩
  by_cases c3 : 1000 < m
  ·refine zs5 @tup2.eq_1 @c1 @c2 @c3 @gV_u ?_
   exact ⟨by simp, (zh (HSub.refl h))⟩
  refine zs5 @tup2.eq_1 @c1 @c2 @c3 @gV_u ?_
  refine jaa.eq (kx (by omega) _) ?_
  refine zs ?_
  exact ⟨by simp [c1, c2, c3], (zh (HSub.refl h))⟩
 ·rw [if_neg c] at kt
  obtain ⟨d, o, pb, w, mn, mx, nz, prns⟩ := p
  unfold plA gA at *
  dsimp only at *
  refine zf hC tab314 ?_; simp only [B314]; refine zs ?_
  refine jaa.eq (kt _ (R.mono (zh (HSub.refl h)))) ?_
  refine zs2 @tup2.eq_1 @c ?_
  exact ⟨by simp, (zh (HSub.refl h))⟩
end
end Go.Ae
namespace Go.Ae
theorem jkv {neg : Bool} {i o : Nat} : eqpA neg (.ptr i o) = some (.bool neg) := rfl
theorem jrF {neg : Bool} : eqpA neg .nilptr = some (.bool !neg) := rfl
def ACode.tl1 : ACode → ACode
 | .seq _ b => b
 | c => c
section
variable {C : Ctx}
theorem jgo (hC : Has C T390) {v vp : AV} {p : PlanP} {s : List (Int × Int)} {prn a : Int} {h : Heap} (hs : SI h v s) (v1 : vp.one = true) (A : AcOk p s prn) (ha : -2000000 ≤ a ∧ a ≤ 2000000) :
  ACalls C 390 [v, plA p vp, .int .i64 prn, .int .i64 a] h (fun r h' => r = .int .i64 (wpI s (sampL p.d prn p.o.toNat) a) ∧ h' = h) := by
 refine ACalls.gc0 (P := fun r h' => r = .int .i64 (wpI s (sampL p.d prn p.o.toNat) a) ∧ HSub h h') ?_ (fun r h' hp => ⟨by rw [hp.1]; trivial, hp.2, hp.1, rfl⟩)
 have kb := fun h1 (q : HSub h h1) => jmf (zu hC T276) (a := a) (hs.mono q) A.p64.1 A.p64.2.1 (A.p64.2.2.2.2.2.2.2 _ A.hin) (by unfold In64; omega)
 have be := A.bank ha
 unfold bsumE at kb
 rw [if_pos be] at kb
 have w := jhP (A.win a)
 have wi := A.win a
 unfold wpI
 generalize sumP s (sampL p.d prn p.o.toNat) a = x at *
 obtain ⟨x1, x2⟩ := x
 rw [w.1]
 have m1 : -1099511627776 ≤ x1 * x1 ∧ x1 * x1 ≤ 1099511627776 := by unfold inS at wi; have := jgU (k := x1) (s := x1) (K := 1039368) (S := 1039368) wi.1 wi.1; omega
 have m2 : -1099511627776 ≤ x2 * x2 ∧ x2 * x2 ≤ 1099511627776 := by unfold inS at wi; have := jgU (k := x2) (s := x2) (K := 1039368) (S := 1039368) wi.2 wi.2; omega
 clear w wi
 unfold smp at kb
 unfold plA
 dsimp only at *
 refine zf hC tab390 ?_; simp only [B390]; refine zs ?_
 refine jaa.eq (kb _ (HSub.push1 _ _)) ?_
 refine zs ?_
 exact (zh (HSub.refl h))
theorem jk7 {l : List Int} {k : Nat} (hk : k < l.length) (x : Int) : ((l.take (k + 1)).any fun y => y == x) = (((l.take k).any fun y => y == x) || l.getD k 0 == x) := by
 rw [List.take_succ_eq_append_getElem hk, List.any_append, List.getD_eq_getElem?_getD, List.getElem?_eq_getElem hk]; simp
set_option maxHeartbeats 4000000 in
set_option maxRecDepth 20000 in
theorem jmr (hC : Has C T381) {v vp : AV} {p : PlanP} {s : List (Int × Int)} {prn f m : Int} {h0 H : Heap} (q0 : HSub h0 H) {ix ic : Nat} {t : Nat → AV} (hs : SI H v s) (R : RI H vp p.prns) (hl8 : p.prns.length ≤ 8) (hf : In64 f) (hm : In64 m)
  (gc : H.get ic = some (.cells [.int .i64 prn] true 0)) (gx : H.get ix = some (.cells [.int .i64 p.d, .int .i64 p.o, .int .i64 p.pb, .int .i64 p.w, .int .i64 p.mn, .int .i64 p.mx, .int .i64 p.nz, vp] true 0))
  (e0 : t 0 = v) (e3 : t 3 = .ptr ic 0) (e4 : t 4 = .int .i64 f) (e5 : t 5 = .int .i64 m) (e7 : t 7 = .ptr ix 0) :
  wp C B381.ntmps none B381.code.tl1.tl1.tl1 (retO B381.res (fun r h' => r = .int .i64 (firstE [codeE p prn, sampE s, placE f m]) ∧ HSub h0 h')) ⟨t, H, []⟩ := by
 have v1 := R.one
 have hlt := hs.lt
 unfold In64 at hf hm
 have st := fun (k : Nat) (hk : k < p.prns.length) => jk7 hk prn
 have a0 : ((p.prns.take 0).any fun y => y == prn) = false := rfl
 have ce : codeE p prn = if ((p.prns.take p.prns.length).any fun y => y == prn) = true then 0 else 18 := by
  unfold codeE
  rw [List.take_length]
  by_cases c : prn ∈ p.prns
  ·rw [if_pos c, if_pos (by simpa using c)]
  ·rw [if_neg c, if_neg (by simpa using c)]
 have f1 : codeE p prn ≠ 0 → firstE [codeE p prn, sampE s, placE f m] = codeE p prn := fun q => by rw [firstE, if_pos q]
 have f2 : codeE p prn = 0 → sampE s ≠ 0 → firstE [codeE p prn, sampE s, placE f m] = sampE s := fun q q2 => by rw [firstE, if_neg (by omega), firstE, if_pos q2]
 have f3 : codeE p prn = 0 → sampE s = 0 → firstE [codeE p prn, sampE s, placE f m] = placE f m := fun q q2 => by
  rw [firstE, if_neg (by omega), firstE, if_neg (by omega), firstE, firstE]
  split
  ·rfl
  ·omega
 have s4 : 1048576 < s.length → sampE s = 4 := fun q => by unfold sampE; rw [if_pos q]
 have s2 : ¬ 1048576 < s.length → (¬ ∀ x ∈ s, inS 127 x) → sampE s = 2 := fun q q2 => by unfold sampE; rw [if_neg q, if_neg q2]
 have s0 : ¬ 1048576 < s.length → (∀ x ∈ s, inS 127 x) → sampE s = 0 := fun q q2 => by unfold sampE; rw [if_neg q, if_pos q2]
 have pl : placE f m = if f < 0 ∨ 1048576 < f ∨ m < 1 ∨ 16 < m then 2 else 0 := rfl
 generalize hF : firstE [codeE p prn, sampE s, placE f m] = FF at *
 generalize codeE p prn = CE at *
 generalize sampE s = SE at *
 generalize placE f m = PE at *
 generalize hAN : (fun k => ((p.prns.take k).any fun y => y == prn)) = AN at *
 have st : ∀ k, k < p.prns.length → AN (k + 1) = (AN k || p.prns.getD k 0 == prn) := fun k hk => by rw [← hAN]; exact st k hk
 have a0 : AN 0 = false := by rw [← hAN]; rfl
 have ce : CE = if AN p.prns.length = true then 0 else 18 := by rw [← hAN]; exact ce
 clear hAN
 simp only [B381, ACode.tl1]
 refine zs3 @e3 @jhf @jkv ?_
 refine jab (fun j u h1 => h1 = H ∧ u 0 = v ∧ u 3 = .ptr ic 0 ∧ u 4 = .int .i64 f ∧ u 5 = .int .i64 m ∧ u 7 = .ptr ix 0 ∧ ∃ k : Nat, u 15 = .bool (AN k) ∧ u 16 = .int .i64 (k : Nat) ∧ k ≤ p.prns.length ∧ j = p.prns.length - k) (j0 := p.prns.length)
  ⟨rfl, e0, e3, e4, e5, e7, 0, by rw [a0]; rfl, rfl, by omega, rfl⟩ ?_
 rintro j u h1 ⟨rfl, f0, f3', f4, f5, f7, k, f15, f16, hk, hj⟩
 refine zs4 @f7 @f16 @gx @R.len ?_
 refine Br.by (fun c1 => ?_) (fun c1 => ?_)
 ·have hk' : k < p.prns.length := by omega
  have stk := st k hk'
  cases hb : AN k with
  | true =>
   rw [hb] at f15
   rw [hb, Bool.true_or] at stk
   refine zs3 @f15 @f16 @gV_u ?_
   exact ⟨_, ⟨f0, f3', f4, f5, f7, k + 1, by rw [stk], by simp, by omega, rfl⟩, by omega⟩
  | false =>
   rw [hb] at f15
   rw [hb, Bool.false_or] at stk
   have stk2 : AN (k + 1) = decide (p.prns.getD k 0 = prn) := by rw [stk, Bool.eq_iff_iff]; simp
   refine zs9 @f3' @f7 @f15 @f16 @gx @gc @R.idx (R.load hk') @notNilA.eq_1 ?_
   exact ⟨_, ⟨f0, f4, f5, k + 1, by rw [stk2], by simp, by omega, rfl⟩, by omega⟩
 ·obtain rfl : k = p.prns.length := by omega
  cases hb : AN p.prns.length with
  | false =>
   rw [hb] at f15
   have e : FF = 18 := by rw [f1 (by rw [ce, hb]; decide), ce, hb]; rfl
   rw [e]
   refine zs1 @f15 ?_
   exact q0
  | true =>
   rw [hb] at f15
   have c0 : CE = 0 := by rw [ce, hb]; rfl
   by_cases c4 : 1048576 < s.length
   ·have e4 := s4 c4
    have e : FF = 4 := by rw [f2 c0 (by omega), e4]
    rw [e]
    refine zs3 @f15 @f0 @hs.len ?_
    exact q0
   ·refine zs3 @f15 @f0 @hs.len ?_
    refine jab (fun j w h2 => h2 = h1 ∧ w 0 = v ∧ w 4 = .int .i64 f ∧ w 5 = .int .i64 m ∧ ∃ k : Nat, w 17 = .int .i64 (k : Nat) ∧ (∀ i, i < k → inS 127 (s.getD i (0, 0))) ∧ k ≤ s.length ∧ j = s.length - k) (j0 := s.length)
     ⟨rfl, f0, f4, f5, 0, rfl, fun i hi => by omega, by omega, rfl⟩ ?_
    rintro j w h2 ⟨rfl, g0, g4, g5, k, g17, hp, hk2, hj2⟩
    refine zs3 @g0 @g17 @hs.len ?_
    refine Br.by (fun c5 => ?_) (fun c5 => ?_)
    ·have hk' : k < s.length := by omega
     have l0 := hs.load0 hk'
     have l1 := hs.load1 hk'
     have hall : ¬ inS 127 (s.getD k (0, 0)) → FF = 2 := fun q => by
      have e2 := s2 c4 (fun z => q (z _ (jec hk')))
      rw [f2 c0 (by omega), e2]
     have hnx : inS 127 (s.getD k (0, 0)) → ∀ i, i < k + 1 → inS 127 (s.getD i (0, 0)) := fun q i hi => by
      rcases Nat.lt_or_ge i k with x | x
      ·exact hp i x
      ·have : i = k := by omega
       rw [this]; exact q
     unfold inS at hall hnx
     generalize s.getD k (0, 0) = x at l0 l1 hall hnx
     by_cases p1 : x.1 < -127
     ·rw [hall (by omega)]
      refine zs7 @g0 @g17 @hs.idx @hs.fld @l0 @l1 @gV_u ?_
      exact q0
     ·by_cases p2 : 127 < x.1
      ·rw [hall (by omega)]
       refine zs7 @g0 @g17 @hs.idx @hs.fld @l0 @l1 @gV_u ?_
       exact q0
      ·by_cases p3 : x.2 < -127
       ·rw [hall (by omega)]
        refine zs7 @g0 @g17 @hs.idx @hs.fld @l0 @l1 @gV_u ?_
        exact q0
       ·by_cases p4 : 127 < x.2
        ·rw [hall (by omega)]
         refine zs7 @g0 @g17 @hs.idx @hs.fld @l0 @l1 @gV_u ?_
         exact q0
        ·refine zs7 @g0 @g17 @hs.idx @hs.fld @l0 @l1 @gV_u ?_
         exact ⟨_, ⟨g4, g5, k + 1, by simp, hnx (by omega), by omega, rfl⟩, by omega⟩
    ·have ek : k = s.length := by omega
     have c3 : ∀ x ∈ s, inS 127 x := fun x hx => by
      obtain ⟨i, hi, rfl⟩ := List.getElem_of_mem hx
      have := hp i (by omega)
      rwa [List.getD_eq_getElem?_getD, List.getElem?_eq_getElem hi] at this
     have e := f3 c0 (s0 c4 c3)
     rw [e]
     by_cases p1 : f < 0
     ·rw [pl, if_pos (by omega)]
      refine zs3 @g4 @g5 @gV_u ?_
      exact q0
     ·by_cases p2 : 1048576 < f
      ·rw [pl, if_pos (by omega)]
       refine zs3 @g4 @g5 @gV_u ?_
       exact q0
      ·by_cases p3 : m < 1
       ·rw [pl, if_pos (by omega)]
        refine zs3 @g4 @g5 @gV_u ?_
        exact q0
       ·by_cases p4 : 16 < m
        ·rw [pl, if_pos (by omega)]
         refine zs3 @g4 @g5 @gV_u ?_
         exact q0
        ·rw [pl, if_neg (by omega)]
         refine zs3 @g4 @g5 @gV_u ?_
         exact q0
set_option maxHeartbeats 2000000 in
set_option maxRecDepth 20000 in
theorem jeq (hC : Has C T381) {v vp vg vc : AV} {p : PlanP} {s : List (Int × Int)} {prn b sh f m : Int} {h : Heap} {G : Bool} (hs : SI h v s) (R : RI h vp p.prns) (p64 : p.ok64) (hf : In64 f) (hm : In64 m)
  (hg : if G = true then ∃ i, vg = .ptr i 0 ∧ h.get i = some (.cells [.int .i64 b, .int .i64 sh] true 0) else vg = .nilptr) (hc : ∃ i, vc = .ptr i 0 ∧ h.get i = some (.cells [.int .i64 prn] true 0)) :
  ACalls C 381 [v, plA p vp, vg, vc, .int .i64 f, .int .i64 m] h (fun r h' => r = .int .i64 (firstE [p.err, if G = true then gErr b sh else 0, codeE p prn, sampE s, placE f m]) ∧ h' = h) := by
 refine ACalls.gc0 (P := fun r h' => r = .int .i64 (firstE [p.err, if G = true then gErr b sh else 0, codeE p prn, sampE s, placE f m]) ∧ HSub h h') ?_ (fun r h' hp => ⟨by rw [hp.1]; trivial, hp.2, hp.1, rfl⟩)
 have v1 := R.one
 have kp := fun h1 (q : HSub h h1) => jb1 (zu hC T220) (h := h1) (p := p) ⟨vp, rfl, R.mono q⟩ p64
 have kG := fun h1 => jdS (zu hC T352) (b := b) (s := sh) (h := h1)
 obtain ⟨ic, rfl, gc⟩ := hc
 have lc := Heap.lt_of_get gc
 have pl8 : p.err = 0 → p.prns.length ≤ 8 := fun e => (jc9 e).len.2
 have hlt := hs.lt
 have st := fun (k : Nat) (hk : k < p.prns.length) => jk7 hk prn
 have ce : codeE p prn = if ((p.prns.take p.prns.length).any fun y => y == prn) = true then 0 else 18 := by
  unfold codeE
  rw [List.take_length]
  by_cases c : prn ∈ p.prns
  ·rw [if_pos c, if_pos (by simpa using c)]
  ·rw [if_neg c, if_neg (by simpa using c)]
 have se : sampE s = if 1048576 < s.length then 4 else if ∀ x ∈ s, inS 127 x then 0 else 2 := rfl
 unfold plA at *
 unfold gA at kG
 by_cases c0 : p.err = 0
 ·have l8 := pl8 c0
  by_cases cg : G = true ∧ gErr b sh ≠ 0
  ·obtain ⟨rfl, g0⟩ := cg
   obtain ⟨ig, rfl, gg⟩ := hg
   have e : firstE [p.err, if true = true then gErr b sh else 0, codeE p prn, sampE s, placE f m] = gErr b sh := by rw [firstE, if_neg (by omega), firstE, if_pos rfl, if_pos g0]
   rw [e]
   rw [c0] at kp
   have lg := Heap.lt_of_get gg
   generalize gErr b sh = E at *
   refine zf hC tab381 ?_; simp only [B381]; refine zs ?_
   refine jaa.eq (kp _ (HSub.push1 _ _)) ?_
   refine zs4 @jhf @jkv @gg @notNilA.eq_1 ?_
   refine jaa.eq (kG _) ?_
   refine zs1 @g0 ?_
   exact (zh (HSub.refl h))
  ·have e : firstE [p.err, if G = true then gErr b sh else 0, codeE p prn, sampE s, placE f m] = firstE [codeE p prn, sampE s, placE f m] := by
    rw [firstE, if_neg (by omega), firstE, if_neg (by
     by_cases q : G = true
     ·rw [if_pos q]; intro z; exact cg ⟨q, z⟩
     ·rw [if_neg q]; simp)]
   rw [e]
   clear e
   rw [c0] at kp
   have hR : ∃ R, R = B381.code.tl1.tl1.tl1 := ⟨_, rfl⟩
   obtain ⟨Rc, hR⟩ := hR
   have key := fun H1 (q : HSub h H1) t (gx : H1.get h.size = some (.cells [.int .i64 p.d, .int .i64 p.o, .int .i64 p.pb, .int .i64 p.w, .int .i64 p.mn, .int .i64 p.mx, .int .i64 p.nz, vp] true 0)) => jmr hC q (H := H1) (t := t) (ic := ic) (ix := h.size) (p := p) (prn := prn) (f := f) (m := m) (hs.mono q) (R.mono q) l8 hf hm ((q.get _ lc).trans gc) gx
   rw [← hR] at key
   (refine jcC (hC.body (by decide) tab381) (Nat.le_of_ble_eq_true rfl) ?_); (show wp C _ none B381.code _ _)
   simp only [B381, ACode.tl1] at hR key
   simp only [B381]
   rw [← hR]
   clear hR
   refine zs ?_
   refine jaa.eq (kp _ (HSub.push1 _ _)) ?_
   cases G with
   | true =>
    obtain ⟨ig, rfl, gg⟩ := hg
    have g0 : gErr b sh = 0 := by
     by_cases q : gErr b sh = 0
     ·exact q
     ·exact absurd ⟨rfl, q⟩ cg
    have lg := Heap.lt_of_get gg
    rw [g0] at kG
    refine zs4 @jhf @jkv @gg @notNilA.eq_1 ?_
    refine jaa.eq (kG _) ?_
    refine zs ?_
    exact key _ (HSub.push1 _ _) _ (by exact ze) rfl rfl rfl rfl rfl
   | false =>
    have hg : vg = .nilptr := hg
    subst hg
    refine zs2 @jhf @jrF ?_
    exact key _ (HSub.push1 _ _) _ (by exact ze) rfl rfl rfl rfl rfl
 ·have e : firstE [p.err, if G = true then gErr b sh else 0, codeE p prn, sampE s, placE f m] = p.err := by rw [firstE, if_pos c0]
  rw [e]
  generalize p.err = E at *
  refine zf hC tab381 ?_; simp only [B381]; refine zs ?_
  refine jaa.eq (kp _ (HSub.push1 _ _)) ?_
  refine zs1 @c0 ?_
  exact (zh (HSub.refl h))
theorem pwK_c (s : List (Int × Int)) (c : List Int) (a w : Int) (k : Nat) : pwK s c a w (k + 1) = pwK s c a w k + wpI s c (a + (k : Nat) * w) := rfl
set_option maxHeartbeats 2000000 in
set_option maxRecDepth 20000 in
theorem jfb (hC : Has C T382) {v vp : AV} {p : PlanP} {s : List (Int × Int)} {prn f : Int} {m : Nat} {h : Heap} (hs : SI h v s) (R : RI h vp p.prns) (A : AcOk p s prn) (hf : 0 ≤ f ∧ f ≤ 1048576) (hm : 1 ≤ m ∧ m ≤ 16) :
  ACalls C 382 [v, plA p vp, .int .i64 prn, .int .i64 f, .int .i64 (m : Nat)] h (fun r h' => ∃ v', r = jac v' (if fitB s p f m = true then 0 else 16) ∧ HSub h h' ∧ RI h' v' (if fitB s p f m = true then scanL s (sampL p.d prn p.o.toNat) f p.size m p.size.toNat else [])) := by
 have v1 := R.one
 have sz := jam A.ok.nums
 have hlt := hs.lt
 have kz := fun H => jbH (zu hC T244) (h := H) (vp := vp) A.ok.nums v1
 have kp := fun (a : Int) H (q : HSub h H) (ha : -2000000 ≤ a ∧ a ≤ 2000000) => jgo (zu hC T390) (a := a) (hs.mono q) v1 A ha
 have pb := fun a k => A.pw a p.size k
 have w0 := fun a => (jhP (A.win a)).2
 have nE : ∃ n : Nat, (n : Int) = p.size := ⟨p.size.toNat, by omega⟩
 obtain ⟨n, hn⟩ := nE
 have et : p.size.toNat = n := by omega
 have m1 : 0 ≤ (m : Int) * n := Int.mul_nonneg (by omega) (by omega)
 have m2 : (m : Int) * n ≤ 16 * 8184 := Int.mul_le_mul (by omega) (by omega) (by omega) (by omega)
 have mk : ∀ k : Nat, k < m → 0 ≤ (k : Int) * n ∧ (k : Int) * n ≤ 16 * 8184 := fun k hk => ⟨Int.mul_nonneg (by omega) (by omega), Int.mul_le_mul (by omega) (by omega) (by omega) (by omega)⟩
 rw [et]
 unfold fitB
 rw [← hn] at kz pb sz ⊢
 have pks := fun a k => pwK_c s (sampL p.d prn p.o.toNat) a n k
 have scs := fun k => jmp s (sampL p.d prn p.o.toNat) f n m k
 have sc0 : scanL s (sampL p.d prn p.o.toNat) f n m 0 = [] := rfl
 have pk0 : ∀ a, pwK s (sampL p.d prn p.o.toNat) a n 0 = 0 := fun _ => rfl
 have w0 : ∀ a, 0 ≤ wpI s (sampL p.d prn p.o.toNat) a ∧ wpI s (sampL p.d prn p.o.toNat) a ≤ 2200000000000 := w0
 have sll := fun k => jb8 s (sampL p.d prn p.o.toNat) f n m k
 generalize sampL p.d prn p.o.toNat = cd at *
 generalize scanL s cd f n m = SC at *
 generalize pwK s cd = PK at *
 generalize wpI s cd = W at *
 unfold plA at *
 by_cases c : f + (n : Int) - 1 + (m : Int) * n ≤ s.length
 ·have cd' := decide_eq_true c
  rw [if_pos cd', if_pos cd']
  clear cd'
  refine zf hC tab382 ?_; simp only [B382]; refine zs ?_
  refine jaa.eq (kz _) ?_
  refine zs1 @hs.len ?_
  refine jab (fun j t h' => ∃ i : Nat, GrwI (h.push (.cells [.int .i64 p.d, .int .i64 p.o, .int .i64 p.pb, .int .i64 p.w, .int .i64 p.mn, .int .i64 p.mx, .int .i64 p.nz, vp] true 0)) h' (t 13) (SC i) ∧ t 0 = v ∧ t 2 = .int .i64 prn ∧ t 3 = .int .i64 f ∧ t 4 = .int .i64 (m : Nat) ∧ t 6 = .ptr h.size 0 ∧ t 12 = .int .i64 (n : Nat) ∧ t 14 = .int .i64 (f + (i : Nat)) ∧ i ≤ n ∧ j = n - i) (j0 := n)
   ⟨0, by rw [sc0]; exact GrwI.nil _, rfl, rfl, rfl, rfl, rfl, rfl, by rw [show f + ((0 : Nat) : Int) = f by omega]; rfl, by omega, rfl⟩ ?_
  rintro j t h1 ⟨i, A, e0, e2, e3, e4, e6, e12, e14, hi, hj⟩
  have sA := A.sub
  have g6 : h1.get h.size = some (.cells [.int .i64 p.d, .int .i64 p.o, .int .i64 p.pb, .int .i64 p.w, .int .i64 p.mn, .int .i64 p.mx, .int .i64 p.nz, vp] true 0) := (sA.get _ (by simp only [Heap.size_push]; omega)).trans (by exact ze)
  have sH := (HSub.push1 h _).trans sA
  refine zs3 @e3 @e12 @e14 ?_
  refine Br.by (fun c1 => ?_) (fun c1 => ?_)
  ·have hi' : i < n := by omega
   have pbi := pb (f + (i : Nat))
   have pks := pks (f + (i : Nat))
   have scs := scs i
   have pk0 := pk0 (f + (i : Nat))
   refine zs ?_
   refine jab (fun j2 u h2 => h2 = h1 ∧ u 0 = v ∧ u 2 = .int .i64 prn ∧ u 3 = .int .i64 f ∧ u 4 = .int .i64 (m : Nat) ∧ u 6 = .ptr h.size 0 ∧ u 12 = .int .i64 (n : Nat) ∧ u 13 = t 13 ∧ u 14 = .int .i64 (f + (i : Nat)) ∧ ∃ k : Nat, u 15 = .int .i64 (PK (f + (i : Nat)) n k) ∧ u 16 = .int .i64 (k : Nat) ∧ k ≤ m ∧ j2 = m - k) (j0 := m)
    ⟨rfl, e0, e2, e3, e4, e6, e12, rfl, e14, 0, by rw [pk0]; rfl, rfl, by omega, rfl⟩ ?_
   rintro j2 u h2 ⟨rfl, f0, f2, f3, f4, f6, f12, f13, f14, k, f15, f16, hk, hj2⟩
   refine zs2 @f4 @f16 ?_
   refine Br.by (fun c2 => ?_) (fun c2 => ?_)
   ·have hk' : k < m := by omega
    have mkk := mk k hk'
    have pbk := pbi k
    have wk := w0 (f + (i : Nat) + (k : Nat) * n)
    have kpk := kp (f + (i : Nat) + (k : Nat) * n) h2 sH (by omega)
    have pkk := pks k
    generalize hkn : (k : Int) * (n : Int) = kn at *
    generalize hW : W (f + (i : Nat) + kn) = Wk at *
    refine zs9 @f0 @f2 @f6 @f12 @f14 @f15 @f16 @g6 @hkn ?_
    refine jaa.eq kpk ?_
    refine zs2 @f15 @f16 ?_
    exact ⟨_, ⟨f0, f2, f3, f4, f6, f12, f13, f14, k + 1, by rw [pkk], by simp, by omega, rfl⟩, by omega⟩
   ·obtain rfl : k = m := by omega
    have pbk := pbi k
    have sl : HSub h2 (h2.push (.cells [.int .i64 (PK (f + (i : Nat)) n k)] true 0)) := HSub.push1 _ _
    have ll := sll i
    have ap := A.app (x := PK (f + (i : Nat)) n k) _ sl (by omega)
    have sn := A.snoc (x := PK (f + (i : Nat)) n k) sl (by omega)
    rw [← scs] at ap sn
    refine zs6 @f13 @f14 @f15 @jba @jbZ @ap ?_
    exact ⟨_, ⟨i + 1, sn, f0, f2, f3, f4, f6, f12, by simp; omega, by omega, rfl⟩, by omega⟩
  ·obtain rfl : i = n := by omega
   refine zs1 @jac.eq_1 ?_
   exact ⟨_, rfl, sH, A.ri⟩
 ·have cd' : ¬ decide (f + (n : Int) - 1 + (m : Int) * n ≤ s.length) = true := by simpa using c
  rw [if_neg cd', if_neg cd']
  clear cd'
  refine zf hC tab382 ?_; simp only [B382]; refine zs ?_
  refine jaa.eq (kz _) ?_
  refine zs2 @hs.len @jac.eq_1 ?_
  exact ⟨_, rfl, (zh (HSub.refl h)), RI.nil⟩
end
end Go.Ae
namespace Go.Ae
def scanErr (p : PlanP) (s : List (Int × Int)) (prn f m : Int) : Int := if firstE [p.err, codeE p prn, sampE s, placE f m] ≠ 0 then firstE [p.err, codeE p prn, sampE s, placE f m] else if fitB s p f m = true then 0 else 16
def jcT (p : PlanP) (b sh : Int) (s : List (Int × Int)) (prn f m : Int) : Int := if firstE [p.err, gErr b sh, codeE p prn, sampE s, placE f m] ≠ 0 then firstE [p.err, gErr b sh, codeE p prn, sampE s, placE f m] else if fitB s p f m = true then 0 else 16
theorem jb3 : ∀ {l : List Int}, firstE l = 0 → ∀ x ∈ l, x = 0
 | [], _ => by simp
 | x :: l, h => by
  unfold firstE at h
  split at h
  ·omega
  ·intro y hy
   rcases List.mem_cons.1 hy with rfl | hy
   ·omega
   ·exact jb3 h y hy
theorem jhY {p : PlanP} {s : List (Int × Int)} {prn f m : Int} (p64 : p.ok64) (h0 : p.err = 0) (h1 : codeE p prn = 0) (h2 : sampE s = 0) (h3 : placE f m = 0) : AcOk p s prn ∧ (0 ≤ f ∧ f ≤ 1048576) ∧ (1 ≤ m ∧ m ≤ 16) := by
 unfold codeE at h1
 unfold sampE at h2
 unfold placE at h3
 have c1 : prn ∈ p.prns := by
  by_cases q : prn ∈ p.prns
  ·exact q
  ·rw [if_neg q] at h1; omega
 by_cases q : 1048576 < s.length
 ·rw [if_pos q] at h2; omega
 ·rw [if_neg q] at h2
  by_cases q2 : ∀ x ∈ s, inS 127 x
  ·split at h3
   ·omega
   ·exact ⟨⟨h0, jc9 h0, p64, c1, by omega, q2⟩, by omega, by omega⟩
  ·rw [if_neg q2] at h2; omega
theorem skip0 {a b c d : Int} : firstE [a, 0, b, c, d] = firstE [a, b, c, d] := by
 unfold firstE
 split
 ·rfl
 ·rw [firstE, if_neg (by omega)]
def scnI (p : PlanP) (s : List (Int × Int)) (prn f m : Int) : List Int := scanL s (sampL p.d prn p.o.toNat) f p.size m.toNat p.size.toNat
def hitA (prn f pw m : Int) : AV := .agg [.int .i64 prn, .int .i64 f, .int .i64 pw, .int .i64 m]
def hitI (p : PlanP) (s : List (Int × Int)) (prn f m : Int) : AV := hitA prn (f + (bstK (scnI p s prn f m) p.size.toNat : Nat)) ((scnI p s prn f m).getD (bstK (scnI p s prn f m) p.size.toNat) 0) m
def jdA (p : PlanP) (b sh : Int) (s : List (Int × Int)) (prn f m : Int) : AV := if jcT p b sh s prn f m = 0 then .tuple [hitI p s prn f m, .bool (claimB (thrI p sh prn) ((scnI p s prn f m).getD (bstK (scnI p s prn f m) p.size.toNat) 0) m), .int .i64 0] else .tuple [hitA 0 0 0 0, .bool false, .int .i64 (jcT p b sh s prn f m)]
section
variable {C : Ctx}
set_option maxHeartbeats 2000000 in
set_option maxRecDepth 20000 in
theorem jms (hC : Has C T369) {v vp : AV} {p : PlanP} {s : List (Int × Int)} {prn f m : Int} {h : Heap} (hs : SI h v s) (R : RI h vp p.prns) (p64 : p.ok64) (hf : In64 f) (hm : In64 m) :
  ACalls C 369 [v, plA p vp, .int .i64 prn, .int .i64 f, .int .i64 m] h (fun r h' => ∃ v', r = jac v' (scanErr p s prn f m) ∧ HSub h h' ∧ RI h' v' (if scanErr p s prn f m = 0 then scnI p s prn f m else [])) := by
 have v1 := R.one
 have ki := fun H (q : HSub h H) i (g : H.get i = some (.cells [.int .i64 prn] true 0)) => jeq (zu hC T381) (vg := .nilptr) (vc := .ptr i 0) (prn := prn) (b := 0) (sh := 0) (f := f) (m := m) (h := H) (G := false) (hs.mono q) (R.mono q) p64 hf hm rfl ⟨i, rfl, g⟩
 have e0 : (if (false : Bool) = true then gErr 0 0 else 0) = 0 := rfl
 rw [e0] at ki
 have sk := skip0 (a := p.err) (b := codeE p prn) (c := sampE s) (d := placE f m)
 rw [sk] at ki
 have kS := fun (A : AcOk p s prn) (hf : 0 ≤ f ∧ f ≤ 1048576) (k : Nat) (hm : 1 ≤ k ∧ k ≤ 16) H (q : HSub h H) => jfb (zu hC T382) (f := f) (m := k) (hs.mono q) (R.mono q) A hf hm
 unfold scanErr
 by_cases c : firstE [p.err, codeE p prn, sampE s, placE f m] = 0
 ·have z := jb3 c
  have ao := jhY (f := f) (m := m) p64 (z _ (by simp)) (z (codeE p prn) (by simp)) (z (sampE s) (by simp)) (z (placE f m) (by simp))
  obtain ⟨A, hf', hm'⟩ := ao
  have ek : m = ((m.toNat : Nat) : Int) := by omega
  have kS := kS A hf' m.toNat (by omega)
  rw [← ek] at kS
  rw [c] at ki ⊢
  rw [if_neg (by decide)]
  have es : scanL s (sampL p.d prn p.o.toNat) f p.size m.toNat p.size.toNat = scnI p s prn f m := rfl
  rw [es] at kS
  generalize scnI p s prn f m = SC at *
  generalize hE : (if fitB s p f m = true then (0 : Int) else 16) = E at *
  have hE2 : (if fitB s p f m = true then SC else []) = if E = 0 then SC else [] := by
   rw [← hE]; by_cases q : fitB s p f m = true
   ·rw [if_pos q, if_pos q, if_pos rfl]
   ·rw [if_neg q, if_neg q, if_neg (by decide)]
  rw [hE2] at kS
  unfold plA at *
  refine zf hC tab369 ?_; simp only [B369]; refine zs ?_
  refine jaa.eq (ki _ (zh (HSub.refl h)) (h.size + 1) (by exact ze)) ?_
  refine zs ?_
  refine jaa.of (kS _ (zh (HSub.refl h))) ?_
  rintro r h1 ⟨v', rfl, s1, R1⟩
  have s2 := HSub.trans (show HSub h _ from (zh (HSub.refl h))) s1
  refine zs1 @jac.eq_1 ?_
  exact ⟨_, rfl, s2, R1⟩
 ·rw [if_pos c]
  generalize firstE [p.err, codeE p prn, sampE s, placE f m] = E at *
  rw [if_neg c]
  unfold plA at *
  refine zf hC tab369 ?_; simp only [B369]; refine zs ?_
  refine jaa.eq (ki _ (zh (HSub.refl h)) (h.size + 1) (by exact ze)) ?_
  refine zs2 @c @jac.eq_1 ?_
  exact ⟨_, rfl, (zh (HSub.refl h)), RI.nil⟩
set_option maxHeartbeats 2000000 in
set_option maxRecDepth 20000 in
theorem jkw (hC : Has C T384) {v vp : AV} {p : PlanP} {s : List (Int × Int)} {b sh prn f m : Int} {h : Heap} (hs : SI h v s) (R : RI h vp p.prns) (A : AcOk p s prn) (hg : gErr b sh = 0) (hf : 0 ≤ f ∧ f ≤ 1048576) (hm : 1 ≤ m ∧ m ≤ 16) (ht : thrI p sh prn < 3000000000) :
  ACalls C 384 [v, plA p vp, gA b sh, .int .i64 prn, .int .i64 f, .int .i64 m] h (fun r h' => r = (if fitB s p f m = true then .tuple [hitI p s prn f m, .bool (claimB (thrI p sh prn) ((scnI p s prn f m).getD (bstK (scnI p s prn f m) p.size.toNat) 0) m), .int .i64 0] else .tuple [hitA 0 0 0 0, .bool false, .int .i64 16]) ∧ HSub h h') := by
 have v1 := R.one
 have sz := jam A.ok.nums
 have ek : m = ((m.toNat : Nat) : Int) := by omega
 have kS := fun H (q : HSub h H) => jfb (zu hC T382) (f := f) (m := m.toNat) (hs.mono q) (R.mono q) A hf (by omega)
 have kC := fun (pw : Int) H (q : HSub h H) (hp : 0 ≤ pw ∧ pw ≤ 2200000000000 * m) => ji5 (zu hC T314) (b := b) (s := sh) (prn := prn) (pw := pw) (m := m) (R.mono q) A.p64 (by unfold In64; omega) (by unfold In64; omega) (fun _ => ht)
 have dE : detErr p b sh prn = 0 := by
  unfold detErr askErr
  rw [if_pos A.err, hg, if_pos rfl, if_pos A.hin]
 have cE : ∀ pw : Int, 0 ≤ pw → jdz p b sh prn pw m = .tuple [.bool (claimB (thrI p sh prn) pw m), .int .i64 0] := fun pw h1 => by
  unfold jdz; rw [if_pos dE, if_neg (by omega)]
 rw [← ek] at kS
 have es : scanL s (sampL p.d prn p.o.toNat) f p.size m.toNat p.size.toNat = scnI p s prn f m := rfl
 rw [es] at kS
 have sl : (scnI p s prn f m).length = p.size.toNat := jb8 _ _ _ _ _ _
 have sb : ∀ i, i < p.size.toNat → 0 ≤ (scnI p s prn f m).getD i 0 ∧ (scnI p s prn f m).getD i 0 ≤ 2200000000000 * m := fun i hi => by
  have q := A.pw (f + (i : Nat)) p.size m.toNat
  have e : (scnI p s prn f m).getD i 0 = pwK s (sampL p.d prn p.o.toNat) (f + (i : Nat)) p.size m.toNat := jf6 hi
  rw [e]; omega
 unfold hitI hitA
 generalize scnI p s prn f m = SC at *
 generalize hn : p.size.toNat = n at *
 have n1 : 31 ≤ n ∧ n ≤ 8184 := by omega
 have bs := fun k => show bstK SC (k + 1) = if SC.getD (bstK SC k) 0 < SC.getD k 0 then k else bstK SC k from rfl
 have b0 : bstK SC 0 = 0 := rfl
 have bl := fun k => joy SC k
 generalize bstK SC = BK at *
 unfold plA gA at *
 by_cases c : fitB s p f m = true
 ·rw [if_pos c, if_pos c] at kS
  rw [if_pos c]
  refine zf hC tab384 ?_; simp only [B384]; refine zs ?_
  refine jaa.of (kS _ (zh (HSub.refl h))) ?_
  rintro r h1 ⟨v', rfl, s1, R1⟩
  have g12 := s1.get (h.size + 2) (by simp only [Heap.size_push]; omega)
  have g7 := s1.get h.size (by simp only [Heap.size_push]; omega)
  have g8 := s1.get (h.size + 1) (by simp only [Heap.size_push]; omega)
  have s2 := HSub.trans (show HSub h _ from (zh (HSub.refl h))) s1
  have g12 : h1.get (h.size + 2) = some (.cells [.int .i64 0, .int .i64 0, .int .i64 0, .int .i64 0] true 0) := g12.trans (by exact ze)
  have g7 : h1.get h.size = some (.cells [.int .i64 p.d, .int .i64 p.o, .int .i64 p.pb, .int .i64 p.w, .int .i64 p.mn, .int .i64 p.mx, .int .i64 p.nz, vp] true 0) := g7.trans (by exact ze)
  have g8 : h1.get (h.size + 1) = some (.cells [.int .i64 b, .int .i64 sh] true 0) := g8.trans (by exact ze)
  have Rl := R1.len
  rw [sl] at Rl
  refine zs1 @jac.eq_1 ?_
  refine jab (fun j t H => H = h1 ∧ t 3 = .int .i64 prn ∧ t 4 = .int .i64 f ∧ t 5 = .int .i64 m ∧ t 7 = .ptr h.size 0 ∧ t 8 = .ptr (h.size + 1) 0 ∧ t 12 = .ptr (h.size + 2) 0 ∧ t 15 = v' ∧ ∃ i : Nat, t 16 = .int .i64 (BK i : Nat) ∧ t 17 = .int .i64 (i : Nat) ∧ i ≤ n ∧ j = n - i) (j0 := n)
   ⟨rfl, rfl, rfl, rfl, rfl, rfl, rfl, rfl, 0, by rw [b0]; rfl, rfl, by omega, rfl⟩ ?_
  rintro j t H ⟨rfl, e3, e4, e5, e7, e8, e12, e15, i, e16, e17, hi, hj⟩
  refine zs3 @e15 @e17 @Rl ?_
  refine Br.by (fun c1 => ?_) (fun c1 => ?_)
  ·have hi' : i < n := by omega
   have bsi := bs i
   have bli := bl i
   have ld1 := R1.load (k := i) (by omega)
   have ld2 := R1.load (k := BK i) (by omega)
   generalize BK i = bi at *
   refine zs6 @e15 @e16 @e17 @R1.idx @ld1 @ld2 ?_
   refine Br.by (fun c2 => ?_) (fun c2 => ?_)
   ·rw [if_pos c2] at bsi
    refine zs1 @e17 ?_
    exact ⟨_, ⟨e3, e4, e5, e7, e8, e12, e15, i + 1, by rw [bsi], by simp, by omega, rfl⟩, by omega⟩
   ·rw [if_neg c2] at bsi
    refine zs1 @e17 ?_
    exact ⟨_, ⟨e3, e4, e5, e7, e8, e12, e15, i + 1, by rw [bsi]; exact e16, by simp, by omega, rfl⟩, by omega⟩
  ·obtain rfl : i = n := by omega
   have bli := bl i
   have ld2 := R1.load (k := BK i) (by omega)
   have sbi := sb (BK i) (by omega)
   have kCi := kC _ H s2 sbi
   rw [cE _ sbi.1] at kCi
   generalize SC.getD (BK i) 0 = pw at *
   generalize claimB (thrI p sh prn) pw m = cb at *
   have bl2 : BK i < i := by omega
   generalize BK i = bi at *
   refine zs10 @e3 @e5 @e7 @e8 @e15 @e16 @R1.idx @ld2 @g7 @g8 ?_
   refine jaa.eq kCi ?_
   have l12 := Heap.lt_of_get g12
   refine zs9 @e3 @e4 @e5 @e12 @e15 @e16 @R1.idx @ld2 @g12 ?_
   exact (zh s2)
 ·rw [if_neg c, if_neg c] at kS
  rw [if_neg c]
  refine zf hC tab384 ?_; simp only [B384]; refine zs ?_
  refine jaa.of (kS _ (zh (HSub.refl h))) ?_
  rintro r h1 ⟨v', rfl, s1, R1⟩
  have s2 := HSub.trans (show HSub h _ from (zh (HSub.refl h))) s1
  have g12 := s1.get (h.size + 2) (by simp only [Heap.size_push]; omega)
  have g12 : h1.get (h.size + 2) = some (.cells [.int .i64 0, .int .i64 0, .int .i64 0, .int .i64 0] true 0) := g12.trans (by exact ze)
  have l12 := Heap.lt_of_get g12
  refine zs2 @jac.eq_1 @g12 ?_
  exact (zh s2)
set_option maxHeartbeats 2000000 in
set_option maxRecDepth 20000 in
theorem jhZ (hC : Has C T371) {v vp : AV} {p : PlanP} {s : List (Int × Int)} {b sh prn f m : Int} {h : Heap} (hs : SI h v s) (R : RI h vp p.prns) (p64 : p.ok64) (hf : In64 f) (hm : In64 m) (ht : p.err = 0 → gErr b sh = 0 → thrI p sh prn < 3000000000) :
  ACalls C 371 [v, plA p vp, gA b sh, .int .i64 prn, .int .i64 f, .int .i64 m] h (fun r h' => r = jdA p b sh s prn f m ∧ HSub h h') := by
 have v1 := R.one
 have ki := fun H (q : HSub h H) i k (g0 : H.get k = some (.cells [.int .i64 b, .int .i64 sh] true 0)) (g : H.get i = some (.cells [.int .i64 prn] true 0)) => jeq (zu hC T381) (vg := .ptr k 0) (vc := .ptr i 0) (prn := prn) (b := b) (sh := sh) (f := f) (m := m) (h := H) (G := true) (hs.mono q) (R.mono q) p64 hf hm ⟨k, rfl, g0⟩ ⟨i, rfl, g⟩
 have e0 : (if (true : Bool) = true then gErr b sh else 0) = gErr b sh := rfl
 rw [e0] at ki
 have kS := fun (A : AcOk p s prn) (g0 : gErr b sh = 0) (hf : 0 ≤ f ∧ f ≤ 1048576) (hm : 1 ≤ m ∧ m ≤ 16) H (q : HSub h H) => jkw (zu hC T384) (f := f) (m := m) (hs.mono q) (R.mono q) A g0 hf hm (ht A.err g0)
 unfold jdA
 by_cases c : firstE [p.err, gErr b sh, codeE p prn, sampE s, placE f m] = 0
 ·have z := jb3 c
  have ao := jhY (f := f) (m := m) p64 (z _ (by simp)) (z (codeE p prn) (by simp)) (z (sampE s) (by simp)) (z (placE f m) (by simp))
  have g0 := z (gErr b sh) (by simp)
  obtain ⟨A, hf', hm'⟩ := ao
  have kS := kS A g0 hf' hm'
  have ea : jcT p b sh s prn f m = if fitB s p f m = true then 0 else 16 := by unfold jcT; rw [c, if_neg (show ¬ (0 : Int) ≠ 0 by decide)]
  rw [c] at ki
  rw [ea]
  have eo : (if (if fitB s p f m = true then (0 : Int) else 16) = 0 then AV.tuple [hitI p s prn f m, .bool (claimB (thrI p sh prn) ((scnI p s prn f m).getD (bstK (scnI p s prn f m) p.size.toNat) 0) m), .int .i64 0] else .tuple [hitA 0 0 0 0, .bool false, .int .i64 (if fitB s p f m = true then 0 else 16)]) =
    (if fitB s p f m = true then .tuple [hitI p s prn f m, .bool (claimB (thrI p sh prn) ((scnI p s prn f m).getD (bstK (scnI p s prn f m) p.size.toNat) 0) m), .int .i64 0] else .tuple [hitA 0 0 0 0, .bool false, .int .i64 16]) := by
   by_cases q : fitB s p f m = true
   ·rw [if_pos q, if_pos q, if_pos rfl]
   ·rw [if_neg q, if_neg q, if_neg (by decide)]
  rw [eo]
  clear eo
  have out : ∃ (a1 a2 a3 a4 e : Int) (cb : Bool), (if fitB s p f m = true then AV.tuple [hitI p s prn f m, .bool (claimB (thrI p sh prn) ((scnI p s prn f m).getD (bstK (scnI p s prn f m) p.size.toNat) 0) m), .int .i64 0] else .tuple [hitA 0 0 0 0, .bool false, .int .i64 16]) = .tuple [.agg [.int .i64 a1, .int .i64 a2, .int .i64 a3, .int .i64 a4], .bool cb, .int .i64 e] := by
   by_cases q : fitB s p f m = true
   ·rw [if_pos q]; exact ⟨_, _, _, _, _, _, rfl⟩
   ·rw [if_neg q]; exact ⟨_, _, _, _, _, _, rfl⟩
  obtain ⟨a1, a2, a3, a4, e, cb, out⟩ := out
  rw [out] at kS ⊢
  clear out
  unfold plA gA at *
  refine zf hC tab371 ?_; simp only [B371]; refine zs ?_
  refine jaa.eq (ki _ (zh (HSub.refl h)) (h.size + 2) (h.size + 1) (by exact ze) (by exact ze)) ?_
  refine zs ?_
  refine jaa.of (kS _ (zh (HSub.refl h))) ?_
  rintro r h1 ⟨rfl, s1⟩
  have s2 := HSub.trans (show HSub h _ from (zh (HSub.refl h))) s1
  have g12 := s1.get (h.size + 3) (by simp only [Heap.size_push]; omega)
  have g12 : h1.get (h.size + 3) = some (.cells [.int .i64 0, .int .i64 0, .int .i64 0, .int .i64 0] true 0) := g12.trans (by exact ze)
  have l12 := Heap.lt_of_get g12
  refine zs1 @g12 ?_
  exact (zh s2)
 ·have ea : jcT p b sh s prn f m = firstE [p.err, gErr b sh, codeE p prn, sampE s, placE f m] := by unfold jcT; rw [if_pos c]
  rw [ea, if_neg c]
  clear ea
  generalize firstE [p.err, gErr b sh, codeE p prn, sampE s, placE f m] = E at *
  unfold plA gA hitA at *
  refine zf hC tab371 ?_; simp only [B371]; refine zs ?_
  refine jaa.eq (ki _ (zh (HSub.refl h)) (h.size + 2) (h.size + 1) (by exact ze) (by exact ze)) ?_
  refine zs1 @c ?_
  exact (zh (HSub.refl h))
end
end Go.Ae
namespace Go.Ae
section
variable {C : Ctx}
set_option maxHeartbeats 2000000 in
set_option maxRecDepth 20000 in
theorem jmt (hC : Has C T277) {v : AV} {s : List (Int × Int)} {d o p a : Int} {m : Nat} {h : Heap} (hs : SI h v s) (hd : In64 d) (ho : In64 o) (hp : In64 p) (ha : -2000000 ≤ a ∧ a ≤ 2000000) (hm : 1 ≤ m ∧ m ≤ 8192) (c : bankErr s d o p a = 0) (hcl : 1 ≤ (sampL d p o.toNat).length) :
  ACalls C 277 [v, .int .i64 d, .int .i64 o, .int .i64 p, .int .i64 a, .int .i64 (m : Nat)] h (fun r h' => ∃ w, r = .tuple [w, .int .i64 0] ∧ HSub h h' ∧ SI h' w (bankL s (sampL d p o.toNat) a 1 m) ∧ ∀ i ∈ w.ids, h.size ≤ i) := by
 have kM := jiL (zu hC T292) hs hd ho hp (a := a) (by unfold In64; omega)
 have v1 := hs.one
 refine zf hC tab277 ?_; simp only [B277]; refine zs ?_
 refine jaa.of kM ?_
 rintro r h1 ⟨s1, x, rfl, g0, g1⟩
 have ok := jgS c
 have sl := jkZ ok.2.2.1
 obtain ⟨w, rfl, R⟩ := g0 c
 have w1 := R.one
 have sb := fun (H : Heap) i => jgQ (H := H) (i := i) (a := .nilslice) (b := .nilslice) v1 w1
 rw [c]
 unfold corA
 by_cases c2 : 64 < m
 ·have kS := fun h2 (q : HSub h1 h2) => jhL (zu hC T297) (a := a) (m := m) (hs.mono (s1.trans q)) (R.mono q) ok.2.1 (jay _ _ _) (by omega) (by omega) (by omega)
  unfold corA at kS
  refine zs3 @corE.eq_1 @sb @gV_u ?_
  refine jaa.of (kS _ (zh (HSub.refl h1))) ?_
  rintro r h2 ⟨s2, R2, F2⟩
  have z1 := s1.size
  refine zs ?_
  exact ⟨_, rfl, s1.trans (HSub.trans (zh (HSub.refl h1)) s2), R2, fun i hi => by have := F2 i hi; simp only [Heap.size_push, Heap.size_put, Heap.size_reserve] at this; omega⟩
 ·have kS := fun h2 (q : HSub h1 h2) => jdw (zu hC T296) (a := a) (m := m) (hs.mono (s1.trans q)) (R.mono q) ok.2.1 (jay _ _ _) (by omega) (by omega) (by omega)
  unfold corA at kS
  refine zs3 @corE.eq_1 @sb @gV_u ?_
  refine jaa.of (kS _ (zh (HSub.refl h1))) ?_
  rintro r h2 ⟨s2, R2, F2⟩
  have z1 := s1.size
  refine zs ?_
  exact ⟨_, rfl, s1.trans (HSub.trans (zh (HSub.refl h1)) s2), R2, fun i hi => by have := F2 i hi; simp only [Heap.size_push, Heap.size_put, Heap.size_reserve] at this; omega⟩
theorem jdB (hC : Has C T380) {v vp : AV} {p : PlanP} {prn f m : Int} {h : Heap} (hv : v.cells = [v]) (v1 : vp.one = true) : ACalls C 380 [v, plA p vp, .int .i64 prn, .int .i64 f, .int .i64 m] h (fun r h' => r = .func 388 [] [.ptr (h.size + 1) 0, .ptr (h.size + 4) 0, .ptr h.size 0, .ptr (h.size + 2) 0, .ptr (h.size + 3) 0] ∧
  h' = ((((h.push (.cells [v] true 0)).push (.cells [.int .i64 p.d, .int .i64 p.o, .int .i64 p.pb, .int .i64 p.w, .int .i64 p.mn, .int .i64 p.mx, .int .i64 p.nz, vp] true 0)).push (.cells [.int .i64 prn] true 0)).push (.cells [.int .i64 f] true 0)).push (.cells [.int .i64 m] true 0)) := by
 unfold plA
 refine zf hC tab380 ?_; simp only [B380]; exact ze1 @hv
theorem SI.offA {h h' : Heap} {v : AV} {l : List (Int × Int)} (H : SI h v l) (hh : ∀ i ∈ v.ids, h'.get i = h.get i) : SI h' v l := by
 obtain ⟨a, b, ⟨rfl, h1⟩ | ⟨i, o, c, ws, wr', u', rfl, hg', hle, hc, x⟩⟩ := H
 ·exact ⟨a, b, .inl ⟨rfl, h1⟩⟩
 ·exact ⟨a, b, .inr ⟨i, o, c, ws, wr', u', rfl, (hh i (by simp [AV.ids])).trans hg', hle, hc, x⟩⟩
def Keeps (h h' h'' : Heap) : Prop := h''.get h.size = h'.get h.size
def swpL (g1 g0 : Nat → Int) (i n : Nat) : List Int := (List.range n).map fun j => if j < i then g1 j else g0 j
theorem jkx (g1 g0 : Nat → Int) (i n : Nat) : (swpL g1 g0 i n).length = n := by simp [swpL]
theorem joz (g1 g0 : Nat → Int) (n : Nat) : swpL g1 g0 0 n = (List.range n).map g0 := by simp [swpL]
theorem jp4 (g1 g0 : Nat → Int) (n : Nat) : swpL g1 g0 n n = (List.range n).map g1 := by
 unfold swpL
 exact List.map_congr_left fun j hj => by rw [if_pos (List.mem_range.1 hj)]
theorem jp5 (g1 g0 : Nat → Int) {i n : Nat} (h : i < n) : (swpL g1 g0 i n).getD i 0 = g0 i := by
 unfold swpL; simp [List.getD_eq_getElem?_getD, h]
theorem jp6 (g1 g0 : Nat → Int) {i n : Nat} (h : i < n) : (swpL g1 g0 i n).set i (g1 i) = swpL g1 g0 (i + 1) n := by
 unfold swpL
 refine List.ext_getElem (by simp) fun k h1 h2 => ?_
 simp only [List.length_set, List.length_map, List.length_range] at h1
 rw [List.getElem_set]
 simp only [List.getElem_map, List.getElem_range]
 by_cases q : i = k
 ·rw [if_pos q, if_pos (by omega), q]
 ·rw [if_neg q]
  by_cases q2 : k < i
  ·rw [if_pos q2, if_pos (by omega)]
  ·rw [if_neg q2, if_neg (by omega)]
set_option maxHeartbeats 4000000 in
set_option maxRecDepth 20000 in
theorem jdC (hC : Has C T388) {l ip im is ic iF m : Nat} {v vp : AV} {p : PlanP} {s : List (Int × Int)} {prn f : Int} {h : Heap} (hs : SI h v s) (R : RI h vp p.prns) (A : AcOk p s prn) (hf : 0 ≤ f ∧ f ≤ 1048576) (hm : 1 ≤ m ∧ m ≤ 16)
  (gp : h.get ip = some (.cells [.int .i64 p.d, .int .i64 p.o, .int .i64 p.pb, .int .i64 p.w, .int .i64 p.mn, .int .i64 p.mx, .int .i64 p.nz, vp] true 0)) (gm : h.get im = some (.cells [.int .i64 (m : Nat)] true 0)) (gs : h.get is = some (.cells [v] true 0)) (gc : h.get ic = some (.cells [.int .i64 prn] true 0)) (gf : h.get iF = some (.cells [.int .i64 f] true 0))
  (J : Nat → Heap → Prop) (D : Heap → Prop) (h0 : ∀ h', HSub h h' → J 0 h') (hb : ∀ k h', J k h' → h'.get iF = some (.cells [.int .i64 f] true 0))
  (hy : ∀ k h', J k h' → k < p.size.toNat → h.size < h'.size → jeZ C l [.int .i64 (f + (k : Nat)), .int .i64 ((scnI p s prn f m).getD k 0)] h' (fun r h'' => r = .bool true ∧ J (k + 1) h'' ∧ Keeps h h' h''))
  (hd : ∀ h', J p.size.toNat h' → D h') : ACalls C 388 [.yield l, .ptr ip 0, .ptr im 0, .ptr is 0, .ptr ic 0, .ptr iF 0] h (fun _ h' => D h') := by
 have v1 := R.one
 have sz := jam A.ok.nums
 have sl1 : ((sampL p.d prn p.o.toNat).length : Int) = p.size := by rw [jaF, sz.2.2]
 have kz := fun H => jdy (zu hC T387) (h := H) (vp := vp) v1 A.ok.nums
 have i9 := A.p64.2.2.2.2.2.2.2 _ A.hin
 have kB := fun (a : Int) (ha : -2000000 ≤ a ∧ a ≤ 2000000) H (q : HSub h H) => jmt (zu hC T277) (a := a) (m := p.size.toNat) (hs.mono q) A.p64.1 A.p64.2.1 i9 ha (by omega) (A.bank ha) (by omega)
 have kP := fun x H => jhN (zu hC T389) (p := x) (h := H)
 have pb := fun a k => A.pw a p.size k
 have ww := fun a => (jhP (A.win a)).2
 have sc : scnI p s prn f m = (List.range p.size.toNat).map fun i => pwK s (sampL p.d prn p.o.toNat) (f + (i : Nat)) p.size m := by unfold scnI scanL; rw [Int.toNat_natCast]
 have pk0 : (List.range p.size.toNat).map (fun i => pwK s (sampL p.d prn p.o.toNat) (f + (i : Nat)) p.size 0) = List.replicate p.size.toNat 0 := by
  refine List.ext_getElem (by simp) fun k h1 h2 => ?_
  simp [pwK]
 have pks := fun a k => show pwK s (sampL p.d prn p.o.toNat) a p.size (k + 1) = pwK s (sampL p.d prn p.o.toNat) a p.size k + powP (sumP s (sampL p.d prn p.o.toNat) (a + (k : Nat) * p.size)) from rfl
 rw [sc] at hy
 clear sc
 obtain ⟨n, hn⟩ : ∃ n : Nat, (n : Int) = p.size := ⟨p.size.toNat, by omega⟩
 have et : p.size.toNat = n := by omega
 have n1 : 31 ≤ n ∧ n ≤ 8184 := by omega
 rw [et] at kB pk0 hy hd
 rw [← hn] at kz pb pk0 pks hy sl1
 have mk : ∀ k : Nat, k < m → 0 ≤ (k : Int) * n ∧ (k : Int) * n ≤ 16 * 8184 := fun k hk => ⟨Int.mul_nonneg (by omega) (by omega), Int.mul_le_mul (by omega) (by omega) (by omega) (by omega)⟩
 generalize sampL p.d prn p.o.toNat = cd at *
 generalize pwK s cd = PK at *
 have hzi : List.replicate n (AV.int .i64 0) = ints (List.replicate n 0) := by simp [ints]
 unfold plA at *
 have swl := fun k i => jkx (fun j => PK (f + (j : Nat)) n (k + 1)) (fun j => PK (f + (j : Nat)) n k) i n
 have swg := fun k i (hi : i < n) => jp5 (fun j => PK (f + (j : Nat)) n (k + 1)) (fun j => PK (f + (j : Nat)) n k) hi
 have sws := fun k i (hi : i < n) => jp6 (fun j => PK (f + (j : Nat)) n (k + 1)) (fun j => PK (f + (j : Nat)) n k) hi
 have sw0 := fun k => joz (fun j => PK (f + (j : Nat)) n (k + 1)) (fun j => PK (f + (j : Nat)) n k) n
 have swa := fun k => jp4 (fun j => PK (f + (j : Nat)) n (k + 1)) (fun j => PK (f + (j : Nat)) n k) n
 have agl : ∀ k, ((List.range n).map fun i => PK (f + (i : Nat)) n k).length = n := fun k => by simp
 have agg : ∀ k i, i < n → ((List.range n).map fun i => PK (f + (i : Nat)) n k).getD i 0 = PK (f + (i : Nat)) n k := fun k i hi => by simp [List.getD_eq_getElem?_getD, hi]
 have lp := Heap.lt_of_get gp
 have lm := Heap.lt_of_get gm
 have ls := Heap.lt_of_get gs
 have lc := Heap.lt_of_get gc
 have lf := Heap.lt_of_get gf
 refine zf hC tab388 ?_; simp only [B388]; refine zs2 @gp @gm ?_
 refine jaa.eq (kz _) ?_
 refine zs2 @gm @hzi ?_
 refine jab (fun j t H => HSub h H ∧ h.size + 1 ≤ H.size ∧ t 0 = .yield l ∧ t 1 = .ptr ip 0 ∧ t 3 = .ptr is 0 ∧ t 4 = .ptr ic 0 ∧ t 5 = .ptr iF 0 ∧ t 7 = .int .i64 (n : Nat) ∧ t 8 = .slice h.size 0 n (.known n) ∧ t 20 = .int .i64 (m : Nat) ∧ ∃ k : Nat, H.get h.size = some (.cells (ints ((List.range n).map fun i => PK (f + (i : Nat)) n k)) true 0) ∧ t 21 = .int .i64 (k : Nat) ∧ k ≤ m ∧ j = m - k) (j0 := m)
  ⟨HSub.push1 _ _, by simp, rfl, rfl, rfl, rfl, rfl, rfl, rfl, rfl, 0, by rw [pk0]; exact ze, rfl, by omega, rfl⟩ ?_
 rintro j t H ⟨sH, hz, e0, e1, e3, e4, e5, e7, e8, e20, k, gb, e21, hk, hj⟩
 refine zs2 @e20 @e21 ?_
 refine Br.by (fun c1 => ?_) (fun c1 => ?_)
 ·have hk' : k < m := by omega
  have mkk := mk k hk'
  have gp1 := (sH.get _ lp).trans gp
  have gs1 := (sH.get _ ls).trans gs
  have gc1 := (sH.get _ lc).trans gc
  have gf1 := (sH.get _ lf).trans gf
  have kBk := kB (f + (k : Nat) * (n : Nat)) (by omega) H sH
  have pwe : ∀ i : Nat, i < n → PK (f + (i : Nat)) n (k + 1) = PK (f + (i : Nat)) n k + powP ((bankL s cd (f + (k : Nat) * (n : Nat)) 1 n).getD i (0, 0)) ∧ 0 ≤ powP ((bankL s cd (f + (k : Nat) * (n : Nat)) 1 n).getD i (0, 0)) ∧ powP ((bankL s cd (f + (k : Nat) * (n : Nat)) 1 n).getD i (0, 0)) ≤ 2200000000000 := fun i hi => by
   have e : (bankL s cd (f + (k : Nat) * (n : Nat)) 1 n).getD i (0, 0) = sumP s cd (f + (i : Nat) + (k : Nat) * (n : Nat)) := by
    unfold bankL
    simp only [List.getD_eq_getElem?_getD, List.getElem?_map, List.getElem?_range hi, Option.map_some, Option.getD_some]
    congr 1
    omega
   rw [e]
   exact ⟨pks _ k, ww _⟩
  have bll := ja5 s cd (f + (k : Nat) * (n : Nat)) 1 n
  generalize hkn : (k : Int) * (n : Int) = kn at *
  generalize bankL s cd (f + kn) 1 n = BL at *
  have swl := swl k
  have swg := swg k
  have sws := sws k
  have sw0 := sw0 k
  have swa := swa k
  refine zs11 @e1 @e3 @e4 @e5 @e7 @e21 @gp1 @gs1 @gc1 @gf1 @hkn ?_
  refine jaa.of kBk ?_
  rintro r h1 ⟨w, rfl, s1, S1, F1⟩
  have S1l := S1.len
  rw [bll] at S1l
  have gb1 := (s1.get _ (by omega)).trans gb
  have sz1 := s1.size
  have sH1 := sH.trans s1
  refine zs1 @S1l ?_
  refine jab (fun j2 u H' => HSub h H' ∧ h1.size ≤ H'.size ∧ SI H' w BL ∧ u 0 = .yield l ∧ u 1 = .ptr ip 0 ∧ u 3 = .ptr is 0 ∧ u 4 = .ptr ic 0 ∧ u 5 = .ptr iF 0 ∧ u 7 = .int .i64 (n : Nat) ∧ u 8 = .slice h.size 0 n (.known n) ∧ u 20 = .int .i64 (m : Nat) ∧ u 21 = .int .i64 (k : Nat) ∧ u 40 = w ∧ u 41 = .int .i64 (n : Nat) ∧ ∃ i : Nat, H'.get h.size = some (.cells (ints (swpL (fun j => PK (f + (j : Nat)) n (k + 1)) (fun j => PK (f + (j : Nat)) n k) i n)) true 0) ∧ u 42 = .int .i64 (i : Nat) ∧ i ≤ n ∧ j2 = n - i) (j0 := n)
   ⟨sH1, Nat.le_refl _, S1, e0, e1, e3, e4, e5, e7, e8, e20, e21, rfl, rfl, 0, by rw [sw0]; exact gb1, rfl, by omega, rfl⟩ ?_
  rintro j2 u H' ⟨sH', hz2, SW, f0, f1, f3, f4, f5, f7, f8, f20, f21, f40, f41, i, gi, f42, hi, hj2⟩
  refine zs2 @f41 @f42 ?_
  refine Br.by (fun c2 => ?_) (fun c2 => ?_)
  ·have hi' : i < n := by omega
   have ld := SW.loadA (k := i) (by omega)
   have pwi := pwe i hi'
   have pbi := pb (f + (i : Nat)) k
   have swgi := swg i hi'
   have swsi := sws i hi'
   have swli := swl i
   have kPi := fun H => kP (BL.getD i (0, 0)) H
   have lg := Heap.lt_of_get gi
   have SW2 : ∀ b, SI (H'.push b) w BL := fun b => SW.mono (HSub.push1 _ _)
   have SW3 : ∀ b b2, SI ((H'.push b).put h.size b2) w BL := fun b b2 => SI.offA (SW2 b) (fun i hi => jae (by have := F1 i hi; omega))
   generalize swpL (fun j => PK (f + (j : Nat)) n (k + 1)) (fun j => PK (f + (j : Nat)) n k) i n = L0 at *
   rw [pwi.1] at swsi
   have SWn : ∀ b b2, SI ((H'.put h.size b2).push b) w BL := fun b b2 => (SI.offA (h' := H'.put h.size b2) SW (fun i hi => jae (by have := F1 i hi; omega))).mono (HSub.push1 _ _)
   generalize PK (f + (i : Nat)) n k = P0 at *
   generalize powP (BL.getD i (0, 0)) = Pw at *
   generalize BL.getD i (0, 0) = x at *
   obtain ⟨x1, x2⟩ := x
   unfold smp at ld kPi
   dsimp only at *
   refine zs8 @f8 @f40 @f42 @SW.idx @ld @gi @swgi @swli ?_
   refine jaa.eq (kPi _) ?_
   refine zs6 @f8 @f42 @gi @swgi @swli @swsi ?_
   exact ⟨_, ⟨(zh (sH')), by omega, SWn _ _, f0, f1, f3, f4, f5, f7, f20, f21, f40, f41, i + 1, rfl, by omega, by omega, rfl⟩, by omega⟩
  ·obtain rfl : i = n := by omega
   rw [swa] at gi
   refine zs1 @f21 ?_
   exact ⟨_, ⟨sH', by omega, f0, f1, f3, f4, f5, f7, f8, f20, k + 1, gi, by omega, by omega, rfl⟩, by omega⟩
 ·obtain rfl : k = m := by omega
  refine zs1 @e8 ?_
  refine jab (fun j u H' => ∃ i : Nat, J i H' ∧ H'.get h.size = some (.cells (ints ((List.range n).map fun i => PK (f + (i : Nat)) n k)) true 0) ∧ u 0 = .yield l ∧ u 5 = .ptr iF 0 ∧ u 57 = .slice h.size 0 n (.known n) ∧ u 58 = .int .i64 (n : Nat) ∧ u 59 = .int .i64 (i : Nat) ∧ i ≤ n ∧ j = n - i) (j0 := n)
   ⟨0, h0 _ sH, gb, e0, e5, rfl, rfl, rfl, by omega, rfl⟩ ?_
  rintro j u H' ⟨i, hJ, gi, f0, f5, f57, f58, f59, hi, hj2⟩
  have gF := hb i H' hJ
  have al := agl k
  have lg := Heap.lt_of_get gi
  refine zs2 @f58 @f59 ?_
  refine Br.by (fun c2 => ?_) (fun c2 => ?_)
  ·have hi' : i < n := by omega
   have hyi := hy i H' hJ hi' lg
   generalize ((List.range n).map fun i => PK (f + (i : Nat)) n k) = SC at *
   refine zs7 @f0 @f5 @f57 @f59 @gF @gi @al ?_
   refine jcE.of hyi ?_
   rintro r h'' ⟨rfl, hJ', K⟩
   refine zs1 @f59 ?_
   exact ⟨_, ⟨i + 1, hJ', Eq.trans K gi, f0, f5, f57, f58, by simp, by omega, rfl⟩, by omega⟩
  ·obtain rfl : i = n := by omega
   refine zs ?_
   exact hd _ hJ
end
end Go.Ae
namespace Go.Ae
def topK (l : List Int) (k : Nat) : Int := if k = 0 then -1 else l.getD (bstK l k) 0
section
variable {C : Ctx}
theorem ji6 (hC : Has C T391) {a x q0 q1 q2 q3 : Int} {i : Nat} {h : Heap} (g : h.get i = some (.cells [.int .i64 q0, .int .i64 q1, .int .i64 q2, .int .i64 q3] true 0)) :
  ACalls C 391 [.int .i64 a, .int .i64 x, .ptr i 0] h (fun r h' => h' = if q2 < x then h.put i (.cells [.int .i64 q0, .int .i64 a, .int .i64 x, .int .i64 q3] true 0) else h) := by
 have li := Heap.lt_of_get g
 by_cases c : q2 < x
 ·rw [if_pos c]
  refine zf hC tab391 ?_; simp only [B391]; exact ze2 @g @jns
 ·rw [if_neg c]
  refine zf hC tab391 ?_; simp only [B391]; exact ze1 @g
set_option maxHeartbeats 4000000 in
set_option maxRecDepth 20000 in
theorem ji7 (hC : Has C T383) {v vp : AV} {p : PlanP} {s : List (Int × Int)} {prn f : Int} {m : Nat} {h : Heap} (hs : SI h v s) (R : RI h vp p.prns) (A : AcOk p s prn) (hf : 0 ≤ f ∧ f ≤ 1048576) (hm : 1 ≤ m ∧ m ≤ 16) :
  ACalls C 383 [v, plA p vp, .int .i64 prn, .int .i64 f, .int .i64 (m : Nat)] h (fun r h' => r = hitI p s prn f (m : Nat) ∧ HSub h h') := by
 have v1 := R.one
 have vc := hs.cells
 have sz := jam A.ok.nums
 have k380 := fun H => jdB (zu hC T380) (p := p) (prn := prn) (f := f) (m := (m : Nat)) (h := H) vc v1
 have kb := fun a x q0 q1 q2 q3 i H g => ji6 (zu hC T391) (a := a) (x := x) (q0 := q0) (q1 := q1) (q2 := q2) (q3 := q3) (i := i) (h := H) g
 have sb : ∀ i, i < p.size.toNat → 0 ≤ (scnI p s prn f m).getD i 0 := fun i hi => by
  have q := A.pw (f + (i : Nat)) p.size m
  have e : (scnI p s prn f m).getD i 0 = pwK s (sampL p.d prn p.o.toNat) (f + (i : Nat)) p.size m := by
   have := jf6 (s := s) (c := sampL p.d prn p.o.toNat) (f := f) (w := p.size) (m := m) hi
   unfold scnI; rw [Int.toNat_natCast]; exact this
  rw [e]; exact q.1
 have n1 : 31 ≤ p.size.toNat := by omega
 unfold hitI hitA
 have hsm := fun H (q : HSub h H) => hs.mono q
 have Rm := fun H (q : HSub h H) => R.mono q
 have k388 := fun l ip im is ic iF H (q : HSub h H) gp gm gs gc gf J D => jdC (zu hC T388) (l := l) (ip := ip) (im := im) (is := is) (ic := ic) (iF := iF) (m := m) (h := H) (hs.mono q) (R.mono q) A hf hm gp gm gs gc gf J D
 generalize scnI p s prn f m = SC at *
 have tk : ∀ k, k < p.size.toNat → (topK SC k < SC.getD k 0 → bstK SC (k + 1) = k ∧ topK SC (k + 1) = SC.getD k 0) ∧ (¬ topK SC k < SC.getD k 0 → bstK SC (k + 1) = bstK SC k ∧ topK SC (k + 1) = topK SC k) := fun k hk => by
  unfold topK
  rw [if_neg (show ¬ k + 1 = 0 by omega)]
  by_cases k0 : k = 0
  ·subst k0
   have := sb 0 (by omega)
   have b1 : bstK SC 1 = 0 := by unfold bstK; show (if SC.getD 0 0 < SC.getD 0 0 then 0 else 0) = 0; split <;> rfl
   rw [if_pos rfl, b1]
   exact ⟨fun _ => ⟨rfl, rfl⟩, fun q => absurd (show (-1 : Int) < SC.getD 0 0 by omega) q⟩
  ·rw [if_neg k0]
   have bs : bstK SC (k + 1) = if SC.getD (bstK SC k) 0 < SC.getD k 0 then k else bstK SC k := rfl
   exact ⟨fun q => by rw [bs, if_pos q]; exact ⟨rfl, rfl⟩, fun q => by rw [bs, if_neg q]; exact ⟨rfl, rfl⟩⟩
 have tn : topK SC p.size.toNat = SC.getD (bstK SC p.size.toNat) 0 := by unfold topK; rw [if_neg (by omega)]
 have t0 : topK SC 0 = -1 := rfl
 have b0 : bstK SC 0 = 0 := rfl
 generalize p.size.toNat = n at *
 generalize topK SC = TP at *
 generalize bstK SC = BK at *
 unfold plA at *
 refine zf hC tab383 ?_; simp only [B383]; refine zs1 @jcH ?_
 refine jaa.hide (fun H hH => ?_)
 have N : H.size = h.size + 4 := by rw [hH]; exact ze
 have g1 : H.get (h.size + 1) = some (.cells [.int .i64 0, .int .i64 0, .int .i64 0, .int .i64 0] true 0) := by rw [hH]; exact ze
 have g2 : H.get (h.size + 2) = some (.cells [.int .i64 prn, .int .i64 f, .int .i64 (-1), .int .i64 (m : Nat)] true 0) := by rw [hH]; exact ze
 have g3 : H.get (h.size + 3) = some (.cells [.func 391 [] [.ptr (h.size + 2) 0]] true 0) := by rw [hH]; exact ze
 have hsH : HSub h H := by rw [hH]; exact (zh (HSub.refl h))
 have g0 : H.get h.size = some (.cells [.int .i64 p.d, .int .i64 p.o, .int .i64 p.pb, .int .i64 p.w, .int .i64 p.mn, .int .i64 p.mx, .int .i64 p.nz, vp] true 0) := by rw [hH]; exact ze
 clear hH
 refine jaa.eq (k380 _) ?_
 refine zs ?_
 refine jbC (D := fun h' => ∃ Rl, h'.get (H.size + 6) = some (.loop Rl) ∧ HSub h h' ∧ h'.get (H.size + 5) = some (.defd true) ∧ H.size + 7 ≤ h'.size ∧ Rl.state = .ready ∧ Rl.pend = none ∧ h'.get (h.size + 1) = some (.cells [.int .i64 0, .int .i64 0, .int .i64 0, .int .i64 0] true 0) ∧
  h'.get (h.size + 2) = some (.cells [.int .i64 prn, .int .i64 (f + (BK n : Nat)), .int .i64 (TP n), .int .i64 (m : Nat)] true 0)) ?_ ?_
 ·refine ACalls.hideLoop (fun Rl hR => ?_)
  show ACalls C 388 [.yield (H.size + 6), .ptr (H.size + 1) 0, .ptr (H.size + 4) 0, .ptr H.size 0, .ptr (H.size + 2) 0, .ptr (H.size + 3) 0] _ _
  have rs : Rl.state = .ready := by rw [hR]
  have rp : Rl.pend = none := by rw [hR]
  have rb := jc4 rs rp
  refine k388 _ _ _ _ _ _ _ (((((((hsH.push _).push _).push _).push _).push _).push _).push _) (by exact ze) (by exact ze) (by exact ze) (by exact ze) (by exact ze) (fun k h' => k ≤ n ∧ h'.get (H.size + 6) = some (.loop Rl) ∧ h'.get (H.size + 5) = some (.defd true) ∧ h'.get (H.size + 3) = some (.cells [.int .i64 f] true 0) ∧ HSub h h' ∧ H.size + 7 ≤ h'.size ∧ h'.get (h.size + 1) = some (.cells [.int .i64 0, .int .i64 0, .int .i64 0, .int .i64 0] true 0) ∧
   h'.get (h.size + 3) = some (.cells [.func 391 [] [.ptr (h.size + 2) 0]] true 0) ∧ h'.get (h.size + 2) = some (.cells [.int .i64 prn, .int .i64 (f + (BK k : Nat)), .int .i64 (TP k), .int .i64 (m : Nat)] true 0)) _ ?_ ?_ ?_ ?_
  ·intro h' q
   have qs := q.size
   simp only [Heap.size_push] at qs
   rw [t0, b0, show f + ((0 : Nat) : Int) = f by omega]
   refine ⟨by omega, (q.get _ (by simp only [Heap.size_push]; omega)).trans (by exact ze), (q.get _ (by simp only [Heap.size_push]; omega)).trans (by exact ze), (q.get _ (by simp only [Heap.size_push]; omega)).trans (by exact ze), (((((((hsH.push _).push _).push _).push _).push _).push _).push _).trans q, by omega, (q.get _ (by simp only [Heap.size_push]; omega)).trans (by exact ze1 @g1), (q.get _ (by simp only [Heap.size_push]; omega)).trans (by exact ze1 @g3), (q.get _ (by simp only [Heap.size_push]; omega)).trans (by exact ze1 @g2)⟩
  ·rintro k h' ⟨_, _, _, gF, _⟩
   exact gF
  ·rintro k h' ⟨hk, hl, hd, gF, hsub, hsz, gz, gcl, gh⟩ hk' hq
   have tkk := tk k hk'
   have kbk := fun H2 g => kb (f + (k : Nat)) (SC.getD k 0) prn (f + (BK k : Nat)) (TP k) (m : Nat) (h.size + 2) H2 g
   generalize SC.getD k 0 = x at *
   refine jby (r := Rl) (by exact ze1 @hl) rs (by rw [hR]; rfl) ?_
   simp only [congrArg ALoop.nt hR, congrArg ALoop.t hR, congrArg ALoop.params hR, congrArg ALoop.assign hR, congrArg ALoop.body hR]
   refine zs3 @hl @rs @gcl ?_
   refine jaa.of (kbk _ (by exact ze1 @gh)) ?_
   rintro r h2 hh
   by_cases c : TP k < x
   ·rw [if_pos c] at hh
    subst hh
    obtain ⟨q1, q2⟩ := tkk.1 c
    refine zs1 @hl ?_
    exact ⟨⟨by omega, by rw [rb], hd, gF, ((hsub.put (by omega) _).put (by omega) _).put (by omega) _, by omega, gz, gcl, by rw [q1, q2]⟩, by unfold Keeps; simp only [Heap.size_push]; rw [jae (by omega), jae (by omega), jae (by omega)]⟩
   ·rw [if_neg c] at hh
    subst hh
    obtain ⟨q1, q2⟩ := tkk.2 c
    refine zs1 @hl ?_
    exact ⟨⟨by omega, by rw [rb], hd, gF, hsub.put (by omega) _, by omega, gz, gcl, by rw [q1, q2]; exact gh⟩, by unfold Keeps; simp only [Heap.size_push]; rw [jae (by omega)]⟩
  ·rintro h' ⟨_, hl, hd, gF, hsub, hsz, gz, gcl, gh⟩
   exact ⟨Rl, hl, hsub, hd, hsz, rs, rp, gz, gh⟩
 ·rintro h' ⟨Rl, hl, hsub, hd, hsz, hst, hpd, gz, gh⟩
  refine ⟨Rl, hl, by rw [hst]; decide, ?_⟩
  rw [hpd]
  show jbb _ _ .normal _
  rw [tn] at gh
  refine zs3 @hd @gz @gh ?_
  exact ((hsub.put (by omega) _).put (by omega) _).put (by omega) _
theorem GrwI.offP {h0 h : Heap} {v : AV} {l : List Int} {j : Nat} {b : ABlk} (A : GrwI h0 h v l) (hj : h0.size ≤ j) (hv : ∀ i ∈ v.ids, i ≠ j) : GrwI h0 (h.put j b) v l := by
 obtain ⟨hs, hl, hn, ⟨rfl, h2⟩ | ⟨i, ex, hi, rfl, hg⟩⟩ := A
 ·exact ⟨hs.put hj b, hl, hn, .inl ⟨rfl, h2⟩⟩
 ·exact ⟨hs.put hj b, hl, hn, .inr ⟨i, ex, hi, rfl, (jae (hv i (by simp [AV.ids]))).trans hg⟩⟩
theorem joA {H : Heap} {v : AV} {sz j : Nat} {cs : List AV} (hv : ∀ i ∈ v.ids, j ≠ i) (hj : j < H.size) : (snocH H none v sz cs).get j = H.get j := by
 unfold snocH
 split
 ·have e := hv _ (by simp [AV.ids]; rfl)
  show ((H.put _ .dead).push _).get j = _
  rw [jai (by simpa using hj), jae e]
 ·show (H.push _).get j = _
  rw [jai hj]
theorem jp7 {H : Heap} {v : AV} {sz : Nat} {cs : List AV} : (snocH H none v sz cs).size = H.size + 1 := by rw [jl8]; rfl
set_option maxHeartbeats 4000000 in
set_option maxRecDepth 20000 in
theorem joB (hC : Has C T368) {v vp : AV} {p : PlanP} {s : List (Int × Int)} {prn f m : Int} {h : Heap} (hs : SI h v s) (R : RI h vp p.prns) (p64 : p.ok64) (hf : In64 f) (hm : In64 m) :
  ACalls C 368 [v, plA p vp, .int .i64 prn, .int .i64 f, .int .i64 m] h (fun r h' => ∃ v', r = jac v' (scanErr p s prn f m) ∧ HSub h h' ∧ RI h' v' (if scanErr p s prn f m = 0 then scnI p s prn f m else [])) := by
 have v1 := R.one
 have vc := hs.cells
 have kp := fun H (q : HSub h H) => jcg (zu hC T219) (h := H) (p := p) ⟨vp, rfl, R.mono q⟩ p64
 have kc := fun H (q : HSub h H) => je8 (zu hC T376) (h := H) (p := p) (prn := prn) (R.mono q)
 have ks := fun H (q : HSub h H) => jc7 (zu hC T377) (h := H) (hs.mono q)
 have kl := fun H => jdx (zu hC T378) (h := H) (f := f) (m := m)
 have k1 := fun H i u (g : H.get i = some (.cells (ints [p.err, codeE p prn, sampE s, placE f m]) true u)) => jem (zu hC T375) (h := H) (l := [p.err, codeE p prn, sampE s, placE f m]) (v := .slice i 0 4 (.known 4)) (RI.known g ⟨rfl, by simp⟩ (by simp)) (by simp)
 unfold scanErr
 unfold plA at *
 by_cases c : firstE [p.err, codeE p prn, sampE s, placE f m] = 0
 ·have z := jb3 c
  have ao := jhY (f := f) (m := m) p64 (z _ (by simp)) (z (codeE p prn) (by simp)) (z (sampE s) (by simp)) (z (placE f m) (by simp))
  obtain ⟨A, hf', hm'⟩ := ao
  have sz := jam A.ok.nums
  have eM : ∃ k : Nat, m = (k : Int) := ⟨m.toNat, by omega⟩
  obtain ⟨mn, rfl⟩ := eM
  have kF := fun H (q : HSub h H) => je9 (zu hC T379) (p := p) (h := H) (hs.mono q) v1 A.ok.nums hf' hm'
  have k380 := fun H => jdB (zu hC T380) (p := p) (prn := prn) (f := f) (m := (mn : Nat)) (h := H) vc v1
  have k388 := fun l ip im is ic iF H (q : HSub h H) gp gm gs gc gf J D => jdC (zu hC T388) (l := l) (ip := ip) (im := im) (is := is) (ic := ic) (iF := iF) (m := mn) (h := H) (hs.mono q) (R.mono q) A hf' (by omega) gp gm gs gc gf J D
  rw [c] at k1
  rw [c, if_neg (show ¬ (0 : Int) ≠ 0 by decide)]
  have scl : (scnI p s prn f (mn : Nat)).length = p.size.toNat := jb8 _ _ _ _ _ _
  generalize scnI p s prn f (mn : Nat) = SC at *
  have n1 : 31 ≤ p.size.toNat ∧ p.size.toNat ≤ 8184 := by omega
  generalize p.size.toNat = n at *
  unfold plA at *
  cases hB : fitB s p f mn with
  | false =>
   rw [hB] at kF
   rw [if_neg (by decide), if_neg (by decide)]
   refine zf hC tab368 ?_; simp only [B368]; refine zs ?_
   refine jaa.eq (kp _ (zh (HSub.refl h))) ?_
   refine zs ?_
   refine jaa.eq (kc _ (zh (HSub.refl h))) ?_
   refine zs ?_
   refine jaa.eq (ks _ (zh (HSub.refl h))) ?_
   refine zs ?_
   refine jaa.eq (kl _) ?_
   refine zs1 @Heap.wf ?_
   refine jaa.eq (k1 _ _ 0 (by refine zs ?_; rfl)) ?_
   refine zs ?_
   refine jaa.eq (kF _ (zh (HSub.refl h))) ?_
   refine zs1 @jac.eq_1 ?_
   exact ⟨_, rfl, (zh (HSub.refl h)), RI.nil⟩
  | true =>
   rw [hB] at kF
   rw [if_pos rfl, if_pos rfl]
   refine zf hC tab368 ?_; simp only [B368]; refine zs ?_
   refine jaa.eq (kp _ (zh (HSub.refl h))) ?_
   refine zs ?_
   refine jaa.eq (kc _ (zh (HSub.refl h))) ?_
   refine zs ?_
   refine jaa.eq (ks _ (zh (HSub.refl h))) ?_
   refine zs ?_
   refine jaa.eq (kl _) ?_
   refine zs1 @Heap.wf ?_
   refine jaa.eq (k1 _ _ 0 (by refine zs ?_; rfl)) ?_
   refine zs ?_
   refine jaa.eq (kF _ (zh (HSub.refl h))) ?_
   refine zs ?_
   refine jaa.hide (fun H hH => ?_)
   have N : H.size = h.size + 15 := by rw [hH]; exact ze
   have g13 : H.get (h.size + 14) = some (.cells [.nilslice] true 0) := by rw [hH]; exact ze
   have hsH : HSub h H := by rw [hH]; exact (zh (HSub.refl h))
   clear hH
   refine jaa.eq (k380 _) ?_
   refine zs ?_
   refine jbC (D := fun h' => ∃ Rl vo, h'.get (H.size + 6) = some (.loop Rl) ∧ HSub h h' ∧ h'.get (H.size + 5) = some (.defd true) ∧ H.size + 7 ≤ h'.size ∧ Rl.state = .ready ∧ Rl.pend = none ∧ h'.get (h.size + 14) = some (.cells [vo] true 0) ∧ GrwI h h' vo SC ∧ ∀ i ∈ vo.ids, H.size + 7 < i) ?_ ?_
   ·refine ACalls.hideLoop (fun Rl hR => ?_)
    show ACalls C 388 [.yield (H.size + 6), .ptr (H.size + 1) 0, .ptr (H.size + 4) 0, .ptr H.size 0, .ptr (H.size + 2) 0, .ptr (H.size + 3) 0] _ _
    have rs : Rl.state = .ready := by rw [hR]
    have rp : Rl.pend = none := by rw [hR]
    have rb := jc4 rs rp
    refine k388 _ _ _ _ _ _ _ (((((((hsH.push _).push _).push _).push _).push _).push _).push _) (by exact ze) (by exact ze) (by exact ze) (by exact ze) (by exact ze) (fun k h' => k ≤ n ∧ h'.get (H.size + 6) = some (.loop Rl) ∧ h'.get (H.size + 5) = some (.defd true) ∧ h'.get (H.size + 3) = some (.cells [.int .i64 f] true 0) ∧ HSub h h' ∧ H.size + 7 ≤ h'.size ∧
     ∃ vo, h'.get (h.size + 14) = some (.cells [vo] true 0) ∧ GrwI h h' vo (SC.take k) ∧ ∀ i ∈ vo.ids, H.size + 7 < i) _ ?_ ?_ ?_ ?_
    ·intro h' q
     have qs := q.size
     simp only [Heap.size_push] at qs
     have qq := (((((((hsH.push (.cells [v] true 0)).push (.cells [.int .i64 p.d, .int .i64 p.o, .int .i64 p.pb, .int .i64 p.w, .int .i64 p.mn, .int .i64 p.mx, .int .i64 p.nz, vp] true 0)).push (.cells [.int .i64 prn] true 0)).push (.cells [.int .i64 f] true 0)).push (.cells [.int .i64 (mn : Nat)] true 0)).push _).push _).trans q
     refine ⟨by omega, (q.get _ (by simp only [Heap.size_push]; omega)).trans (by exact ze), (q.get _ (by simp only [Heap.size_push]; omega)).trans (by exact ze), (q.get _ (by simp only [Heap.size_push]; omega)).trans (by exact ze), qq, by omega, .nilslice, (q.get _ (by simp only [Heap.size_push]; omega)).trans (by exact ze1 @g13), GrwI.nil' qq, by simp [AV.ids]⟩
    ·rintro k h' ⟨_, _, _, gF, _⟩
     exact gF
    ·rintro k h' ⟨hk, hl, hd, gF, hsub, hsz, vo, g14, G, gi⟩ hk' hq
     simp only [Heap.size_push] at hq
     have G2 := G.offP (j := H.size + 6) (b := .loop { Rl with state := .busy }) (by omega) (fun i hi => by have := gi i hi; omega)
     have sl : HSub (h'.put (H.size + 6) (.loop { Rl with state := .busy })) ((h'.put (H.size + 6) (.loop { Rl with state := .busy })).push (.cells [.int .i64 (SC.getD k 0)] true 0)) := HSub.push1 _ _
     have ap := G2.app (x := SC.getD k 0) _ sl (by rw [List.length_take]; omega)
     have sn := G2.snoc (x := SC.getD k 0) sl (by rw [List.length_take]; omega)
     have old := fun j (hj : j < h'.size + 1) (hv : ∀ i ∈ vo.ids, j ≠ i) => joA (H := (h'.put (H.size + 6) (.loop { Rl with state := .busy })).push (.cells [.int .i64 (SC.getD k 0)] true 0)) (v := vo) (sz := 1) (cs := ints (SC.take k ++ [SC.getD k 0])) (j := j) hv (by simpa using hj)
     have tk1 : SC.take k ++ [SC.getD k 0] = SC.take (k + 1) := (jhO (by omega)).symm
     rw [tk1] at ap sn old
     have szz := jp7 (H := (h'.put (H.size + 6) (.loop { Rl with state := .busy })).push (.cells [.int .i64 (SC.getD k 0)] true 0)) (v := vo) (sz := 1) (cs := ints (SC.take (k + 1)))
     have hk14 : ∀ j, j < h'.size → j ≠ H.size + 6 → ((h'.put (H.size + 6) (.loop { Rl with state := .busy })).push (.cells [.int .i64 (SC.getD k 0)] true 0)).get j = h'.get j := fun j h1 h2 => (jai (by simpa using h1)).trans (jae h2)
     have o14 := (old (h.size + 14) (by omega) (fun i hi => by have := gi i hi; omega)).trans ((hk14 _ (by omega) (by omega)).trans g14)
     have o5 := (old (H.size + 5) (by omega) (fun i hi => by have := gi i hi; omega)).trans ((hk14 _ (by omega) (by omega)).trans hd)
     have o3 := (old (H.size + 3) (by omega) (fun i hi => by have := gi i hi; omega)).trans ((hk14 _ (by omega) (by omega)).trans gF)
     have o7 := (old (H.size + 7) (by omega) (fun i hi => by have := gi i hi; omega)).trans (hk14 _ (by omega) (by omega))
     have o6 := (old (H.size + 6) (by omega) (fun i hi => by have := gi i hi; omega)).trans (show ((h'.put (H.size + 6) (.loop { Rl with state := .busy })).push (.cells [.int .i64 (SC.getD k 0)] true 0)).get (H.size + 6) = some (.loop { Rl with state := .busy }) from by exact ze)
     simp only [Heap.size_push, Heap.size_put] at szz ap sn
     generalize snocH ((h'.put (H.size + 6) (.loop { Rl with state := .busy })).push (.cells [.int .i64 (SC.getD k 0)] true 0)) none vo 1 (ints (SC.take (k + 1))) = HS at *
     refine jby (r := Rl) (by exact ze1 @hl) rs (by rw [hR]; rfl) ?_
     simp only [congrArg ALoop.nt hR, congrArg ALoop.t hR, congrArg ALoop.params hR, congrArg ALoop.assign hR, congrArg ALoop.body hR]
     have o14b : HS.get (h.size + 1 + 13) = some (.cells [vo] true 0) := o14
     have l14 : h.size + 1 + 13 < HS.size := by omega
     have l6 : H.size + 6 < HS.size := by omega
     refine zs8 @hl @rs @g14 @jba @jbZ @ap @o14b @o6 ?_
     exact ⟨⟨by omega, by rw [rb], o5, o3, (sn.sub.put (by omega) _).put (by omega) _, by omega, _, rfl, (sn.offP (by omega) (fun i hi => by simp only [AV.ids, List.mem_singleton] at hi; omega)).offP (by omega) (fun i hi => by simp only [AV.ids, List.mem_singleton] at hi; omega), fun i hi => by simp only [AV.ids, List.mem_singleton] at hi; omega⟩, by
      unfold Keeps; simp only [Heap.size_push]; rw [jae (by omega), jae (by omega)]; exact o7⟩
    ·rintro h' ⟨_, hl, hd, gF, hsub, hsz, vo, g14, G, gi⟩
     rw [List.take_of_length_le (by omega)] at G
     exact ⟨Rl, vo, hl, hsub, hd, hsz, rs, rp, g14, G, gi⟩
   ·rintro h' ⟨Rl, vo, hl, hsub, hd, hsz, hst, hpd, g14, G, gi⟩
    refine ⟨Rl, hl, by rw [hst]; decide, ?_⟩
    rw [hpd]
    show jbb _ _ .normal _
    refine zs3 @hd @g14 @jac.eq_1 ?_
    exact ⟨_, rfl, (hsub.put (by omega) _).put (by omega) _, ((G.offP (by omega) (fun i hi => by have := gi i hi; omega)).offP (by omega) (fun i hi => by have := gi i hi; omega)).ri⟩
 ·rw [if_pos c]
  generalize hE : firstE [p.err, codeE p prn, sampE s, placE f m] = E at *
  rw [if_neg c]
  refine zf hC tab368 ?_; simp only [B368]; refine zs ?_
  refine jaa.eq (kp _ (zh (HSub.refl h))) ?_
  refine zs ?_
  refine jaa.eq (kc _ (zh (HSub.refl h))) ?_
  refine zs ?_
  refine jaa.eq (ks _ (zh (HSub.refl h))) ?_
  refine zs ?_
  refine jaa.eq (kl _) ?_
  refine zs1 @Heap.wf ?_
  refine jaa.eq (k1 _ _ 0 (by refine zs ?_; rfl)) ?_
  refine zs2 @c @jac.eq_1 ?_
  exact ⟨_, rfl, (zh (HSub.refl h)), RI.nil⟩
set_option maxHeartbeats 4000000 in
set_option maxRecDepth 20000 in
theorem jfc (hC : Has C T370) {v vp : AV} {p : PlanP} {s : List (Int × Int)} {b sh prn f m : Int} {h : Heap} (hs : SI h v s) (R : RI h vp p.prns) (p64 : p.ok64) (hf : In64 f) (hm : In64 m) :
  ACalls C 370 [v, plA p vp, gA b sh, .int .i64 prn, .int .i64 f, .int .i64 m] h (fun r h' => r = jdA p b sh s prn f m ∧ HSub h h') := by
 have v1 := R.one
 have kp := fun H (q : HSub h H) => jcg (zu hC T219) (h := H) (p := p) ⟨vp, rfl, R.mono q⟩ p64
 have kg := fun H => jdR (zu hC T357) (h := H) (b := b) (s := sh)
 have kc := fun H (q : HSub h H) => je8 (zu hC T376) (h := H) (p := p) (prn := prn) (R.mono q)
 have ks := fun H (q : HSub h H) => jc7 (zu hC T377) (h := H) (hs.mono q)
 have kl := fun H => jdx (zu hC T378) (h := H) (f := f) (m := m)
 have k1 := fun H i u (g : H.get i = some (.cells (ints [p.err, gErr b sh, codeE p prn, sampE s, placE f m]) true u)) => jem (zu hC T375) (h := H) (l := [p.err, gErr b sh, codeE p prn, sampE s, placE f m]) (v := .slice i 0 5 (.known 5)) (RI.known g ⟨rfl, by simp⟩ (by simp)) (by simp)
 unfold jdA
 by_cases c : firstE [p.err, gErr b sh, codeE p prn, sampE s, placE f m] = 0
 ·have z := jb3 c
  have ao := jhY (f := f) (m := m) p64 (z _ (by simp)) (z (codeE p prn) (by simp)) (z (sampE s) (by simp)) (z (placE f m) (by simp))
  have g0 := z (gErr b sh) (by simp)
  obtain ⟨A, hf', hm'⟩ := ao
  have sz := jam A.ok.nums
  have eM : ∃ k : Nat, m = (k : Int) := ⟨m.toNat, by omega⟩
  obtain ⟨mn, rfl⟩ := eM
  have kF := fun H (q : HSub h H) => je9 (zu hC T379) (p := p) (h := H) (hs.mono q) v1 A.ok.nums hf' hm'
  have kB := fun H (q : HSub h H) => ji7 (zu hC T383) (h := H) (m := mn) (hs.mono q) (R.mono q) A hf' (by omega)
  have ea : jcT p b sh s prn f mn = if fitB s p f mn = true then 0 else 16 := by unfold jcT; rw [c, if_neg (show ¬ (0 : Int) ≠ 0 by decide)]
  rw [c] at k1
  rw [ea]
  have dE : detErr p b sh prn = 0 := by
   unfold detErr askErr
   rw [if_pos A.err, g0, if_pos rfl, if_pos A.hin]
  have sl : (scnI p s prn f (mn : Nat)).length = p.size.toNat := jb8 _ _ _ _ _ _
  have n1 : 31 ≤ p.size.toNat := by omega
  have bl := joy (scnI p s prn f (mn : Nat)) p.size.toNat
  have pwb : 0 ≤ (scnI p s prn f (mn : Nat)).getD (bstK (scnI p s prn f (mn : Nat)) p.size.toNat) 0 ∧ (scnI p s prn f (mn : Nat)).getD (bstK (scnI p s prn f (mn : Nat)) p.size.toNat) 0 ≤ 2200000000000 * mn := by
   have hi : bstK (scnI p s prn f (mn : Nat)) p.size.toNat < p.size.toNat := by omega
   generalize bstK (scnI p s prn f (mn : Nat)) p.size.toNat = i at *
   have q := A.pw (f + (i : Nat)) p.size mn
   have e : (scnI p s prn f (mn : Nat)).getD i 0 = pwK s (sampL p.d prn p.o.toNat) (f + (i : Nat)) p.size mn := by
    have := jf6 (s := s) (c := sampL p.d prn p.o.toNat) (f := f) (w := p.size) (m := mn) hi
    unfold scnI; rw [Int.toNat_natCast]; exact this
   rw [e]; omega
  unfold hitI hitA at *
  generalize (scnI p s prn f (mn : Nat)).getD (bstK (scnI p s prn f (mn : Nat)) p.size.toNat) 0 = pw at *
  generalize f + ((bstK (scnI p s prn f (mn : Nat)) p.size.toNat : Nat) : Int) = at1 at *
  have kC := fun H (q : HSub h H) => jks (zu hC T313) (b := b) (s := sh) (prn := prn) (pw := pw) (m := (mn : Nat)) (h := H) (R.mono q) p64 (by unfold In64; omega) (by unfold In64; omega)
  have cE : jdz p b sh prn pw mn = .tuple [.bool (claimB (thrI p sh prn) pw mn), .int .i64 0] := by
   unfold jdz; rw [if_pos dE, if_neg (by omega)]
  rw [cE] at kC
  generalize claimB (thrI p sh prn) pw mn = cb at *
  unfold plA gA at *
  cases hB : fitB s p f mn with
  | false =>
   rw [hB] at kF
   rw [if_neg (show ¬ (false = true) by decide), if_neg (show ¬ (16 : Int) = 0 by decide)]
   refine zf hC tab370 ?_; simp only [B370]; refine zs ?_
   refine jaa.eq (kp _ (zh (HSub.refl h))) ?_
   refine zs ?_
   refine jaa.eq (kg _) ?_
   refine zs ?_
   refine jaa.eq (kc _ (zh (HSub.refl h))) ?_
   refine zs ?_
   refine jaa.eq (ks _ (zh (HSub.refl h))) ?_
   refine zs ?_
   refine jaa.eq (kl _) ?_
   refine zs1 @Heap.wf ?_
   refine jaa.eq (k1 _ _ 0 (by refine zs ?_; rfl)) ?_
   refine zs ?_
   refine jaa.eq (kF _ (zh (HSub.refl h))) ?_
   refine zs ?_
   exact (zh (HSub.refl h))
  | true =>
   rw [hB] at kF
   rw [if_pos rfl, if_pos rfl]
   refine zf hC tab370 ?_; simp only [B370]; refine zs ?_
   refine jaa.eq (kp _ (zh (HSub.refl h))) ?_
   refine zs ?_
   refine jaa.eq (kg _) ?_
   refine zs ?_
   refine jaa.eq (kc _ (zh (HSub.refl h))) ?_
   refine zs ?_
   refine jaa.eq (ks _ (zh (HSub.refl h))) ?_
   refine zs ?_
   refine jaa.eq (kl _) ?_
   refine zs1 @Heap.wf ?_
   refine jaa.eq (k1 _ _ 0 (by refine zs ?_; rfl)) ?_
   refine zs ?_
   refine jaa.eq (kF _ (zh (HSub.refl h))) ?_
   refine zs ?_
   refine jaa.hide (fun H hH => ?_)
   have g7 : H.get h.size = some (.cells [.int .i64 p.d, .int .i64 p.o, .int .i64 p.pb, .int .i64 p.w, .int .i64 p.mn, .int .i64 p.mx, .int .i64 p.nz, vp] true 0) := by rw [hH]; exact ze
   have g8 : H.get (h.size + 1) = some (.cells [.int .i64 b, .int .i64 sh] true 0) := by rw [hH]; exact ze
   have g12 : H.get (h.size + 2) = some (.cells [.int .i64 0, .int .i64 0, .int .i64 0, .int .i64 0] true 0) := by rw [hH]; exact ze
   have hsH : HSub h H := by rw [hH]; exact (zh (HSub.refl h))
   clear hH
   refine jaa.of (kB _ hsH) ?_
   rintro r h1 ⟨rfl, s1⟩
   have g7 := (s1.get _ (Heap.lt_of_get g7)).trans g7
   have g8 := (s1.get _ (Heap.lt_of_get g8)).trans g8
   have g12 := (s1.get _ (Heap.lt_of_get g12)).trans g12
   have l7 := Heap.lt_of_get g7
   have l8 := Heap.lt_of_get g8
   have l12 := Heap.lt_of_get g12
   have s2 := hsH.trans s1
   refine zs3 @g7 @g8 @g12 ?_
   refine jaa.of (kC _ (zh s2)) ?_
   rintro r h3 ⟨rfl, s3⟩
   have l3 := s3.size
   simp only [Heap.size_put] at l3
   have g12 := (s3.get (h.size + 2) (by simp only [Heap.size_put]; omega)).trans (show _ = some (.cells [.int .i64 prn, .int .i64 at1, .int .i64 pw, .int .i64 (mn : Nat)] true 0) from by exact ze)
   have l12 := Heap.lt_of_get g12
   refine zs1 @g12 ?_
   have s4 : HSub h h3 := HSub.trans (zh s2) s3
   exact (zh s4)
 ·have ea : jcT p b sh s prn f m = firstE [p.err, gErr b sh, codeE p prn, sampE s, placE f m] := by unfold jcT; rw [if_pos c]
  rw [ea, if_neg c]
  clear ea
  generalize firstE [p.err, gErr b sh, codeE p prn, sampE s, placE f m] = E at *
  unfold plA gA hitA at *
  refine zf hC tab370 ?_; simp only [B370]; refine zs ?_
  refine jaa.eq (kp _ (zh (HSub.refl h))) ?_
  refine zs ?_
  refine jaa.eq (kg _) ?_
  refine zs ?_
  refine jaa.eq (kc _ (zh (HSub.refl h))) ?_
  refine zs ?_
  refine jaa.eq (ks _ (zh (HSub.refl h))) ?_
  refine zs ?_
  refine jaa.eq (kl _) ?_
  refine zs1 @Heap.wf ?_
  refine jaa.eq (k1 _ _ 0 (by refine zs ?_; rfl)) ?_
  refine zs1 @c ?_
  exact (zh (HSub.refl h))
end
end Go.Ae
namespace Go.Ae
def ji8 (p : PlanP) : Bool := decide ((7 < p.d ∧ p.d < 11) ∨ (3 < p.o ∧ p.o ≤ 8) ∨ 12 < p.prns.length)
theorem jmu {p : PlanP} (ok : PlanOk p) (h : ji8 p = false) : p.size ≤ 381 ∧ ∀ a b, sumI p.d p.o a b ≤ 381 := by
 unfold ji8 at h
 rw [decide_eq_false_iff_not] at h
 have hd := ok.nums.1
 have ho := ok.nums.2.1
 have hN : (lenN p.d : Int) ≤ 127 := by
  unfold lenOk at hd
  simp only [List.any_cons, List.any_nil, Bool.or_false, Bool.or_eq_true, beq_iff_eq] at hd
  rcases hd with e | e | e | e | e <;> rw [e] at h ⊢ <;> first | (exfalso; omega) | decide
 have hs : p.size ≤ 381 := by
  unfold PlanP.size
  exact Int.le_trans (Int.mul_le_mul hN (show p.o ≤ 3 by omega) (by omega) (by decide)) (by decide)
 refine ⟨hs, fun a b => ?_⟩
 have q := jfW (jay p.d a p.o.toNat) (jay p.d b p.o.toNat) (if a = b then p.o.toNat else 0) 3 (Nat.le_refl _)
 rw [jgO, jaF] at q
 have sz := jam ok.nums
 unfold sumI
 omega
theorem jgW {f : Int → Int → Int} {M : Int} (hM : 0 ≤ M) (fr : ∀ a b, f a b ≤ M) {prn : Int} {ps : List Int} : ∀ k : Nat, othK f prn ps k ≤ M * k
 | 0 => by simp [othK]
 | k + 1 => by
  have h := jgW hM fr (prn := prn) (ps := ps) k
  have q := fr prn (ps.getD k 0)
  unfold othK
  rw [Int.natCast_add, Int.mul_add]
  split <;> omega
theorem joC {p : PlanP} {s : Int} (ok : PlanOk p) (hs : 0 ≤ s ∧ s ≤ 30) (h : ji8 p = false) (prn : Int) : thrI p s prn < 3000000000 := by
 obtain ⟨h1, h2⟩ := jmu ok h
 have a := jbn ok.nums prn prn
 have a2 := h2 prn prn
 have b := jeo ok prn
 have b2 := jgW (by decide) h2 (prn := prn) (ps := p.prns) p.prns.length
 have b3 : p.oth prn ≤ 381 * p.prns.length := b2
 have l := ok.len
 have n := ok.nums.2.2.2.2
 have q1 : 0 ≤ 128 * p.mx := by omega
 have m1 : 128 * p.mx * (sumI p.d p.o prn prn + p.oth prn) ≤ 438912000 :=
  Int.le_trans (Int.mul_le_mul (show 128 * p.mx ≤ 128000 by omega) (show sumI p.d p.o prn prn + p.oth prn ≤ 3429 by omega) (by omega) (by decide)) (by decide)
 have c := jdm hs
 have sz := jam ok.nums
 have m2 : 3 * p.size * (p.nz + coarI s) ≤ 1143 * (100000 + coarI s) := Int.mul_le_mul (by omega) (by omega) (by omega) (by decide)
 have q := jf4 hs
 unfold thrI boundI humI
 generalize 128 * p.mx * (sumI p.d p.o prn prn + p.oth prn) = X at *
 generalize 3 * p.size * (p.nz + coarI s) = Y at *
 unfold coarI at *
 generalize (2 : Int) ^ s.toNat = P at *
 rw [Int.ediv_lt_iff_lt_mul (by omega)]
 omega
def P0 : PlanP := ⟨5, 2, 1, 2, 10, 10, 0, [1]⟩
theorem jr8 : P0.err = 0 := by decide +kernel
theorem P0_ok : PlanOk P0 := jc9 jr8
theorem P0_64 : P0.ok64 := by
 refine ⟨?_, ?_, ?_, ?_, ?_, ?_, ?_, ?_⟩
 all_goals first
  | (show In64 _; unfold In64; decide)
  | (intro x hx; have : x = 1 := by simpa [P0] using hx
     subst this; unfold In64; decide)
theorem jr9 : detErr P0 8 5 1 = 0 ∧ detErr P0 8 5 2 = 18 ∧ detErr ⟨5, 2, 1, 2, 10, 10, 0, []⟩ 8 5 1 = 3 := by decide +kernel
theorem joD : P0.size = 62 := by decide +kernel
theorem jsa : P0.oth 1 = 0 := by
 unfold PlanP.oth
 show othK _ 1 [1] 1 = 0
 rfl
theorem jp8 : boundI P0 5 1 = 1280 * sumI 5 2 1 1 + 1488 := by
 unfold boundI humI
 rw [jsa, joD, Int.add_zero]
 show 128 * 10 * sumI 5 2 1 1 + (3 * 62 * (0 + coarI 5) + 1) / 2 = _
 have : coarI 5 = 16 := by decide
 rw [this]
 omega
section
variable {C : Ctx}
theorem jsb : 0 < thrI P0 5 1 ∧ thrI P0 5 1 ≤ 330000 ∧ boundI P0 5 1 ≤ 32 * thrI P0 5 1 ∧ 32 * (thrI P0 5 1 - 1) < boundI P0 5 1 := by
 have b := jp8
 have sr : 0 ≤ sumI 5 2 1 1 ∧ sumI 5 2 1 1 ≤ 8184 := jbn P0_ok.nums 1 1
 have e : (2 : Int) ^ (5 : Int).toNat = 32 := by decide
 unfold thrI
 rw [e]
 generalize boundI P0 5 1 = B at *
 omega
end
end Go.Ae
namespace Go.Ae
theorem joE {a b : Int} (hb : 1 ≤ b) {A : Int} (ha : -A ≤ a ∧ a ≤ A) : -A ≤ a / b ∧ a / b ≤ A := by
 have hA : 0 ≤ A := by omega
 constructor
 ·rw [Int.le_ediv_iff_mul_le (by omega)]
  have : A * 1 ≤ A * b := Int.mul_le_mul_of_nonneg_left hb hA
  have e : -A * b = -(A * b) := by grind
  omega
 ·rw [← Int.lt_add_one_iff, Int.ediv_lt_iff_lt_mul (by omega)]
  have : (A + 1) * 1 ≤ (A + 1) * b := Int.mul_le_mul_of_nonneg_left hb (by omega)
  omega
section
variable {C : Ctx}
set_option maxHeartbeats 1000000 in
set_option maxRecDepth 20000 in
theorem jky (hC : Has C T248) {p : PlanP} {e : EmitP} {vp vb : AV} {k : Int} {h : Heap} (ok : EmOk p e) (B : RI h vb e.bits) (v1 : vp.one = true) (hk : -20000000 ≤ k ∧ k ≤ 20000000) :
  ACalls C 248 [plA p vp, emA e vb, .int .i64 k] h (fun r h' => r = .int .i64 (bitI p e k) ∧ h' = h) := by
 refine ACalls.gc0 (P := fun r h' => r = .int .i64 (bitI p e k) ∧ HSub h h') ?_ (fun r h' hp => ⟨by rw [hp.1]; trivial, hp.2, hp.1, rfl⟩)
 have b1 := B.one
 have blt := B.lt
 have bl := ok.len
 have ba' := ok.en.2.2.2
 have pb' := ok.pn.2.2.1
 have hB : bitI p e k = if e.bits.length = 0 then 0 else e.bits.getD (((k - e.ba) / p.pb) % e.bits.length).toNat 0 := rfl
 have Bm := fun b c => B.mono ((HSub.push1 h b).push c)
 generalize bitI p e k = X at *
 unfold plA emA
 obtain ⟨pd, o, pb, w, mn, mx, nz, prns⟩ := p
 obtain ⟨prn, dl, rt, st, ph, amp, ba, bits⟩ := e
 dsimp only at *
 by_cases c : bits.length = 0
 ·rw [if_pos c] at hB
  subst hB
  refine zf hC tab248 ?_; simp only [B248]; refine zs2 @B.len @c ?_
  exact (HSub.push1 _ _).push _
 ·rw [if_neg c] at hB
  have q3 := joE (a := k - ba) (b := pb) (A := 20000020) (by omega) (by omega)
  have f1 := fun h => jbQ (zu hC T258) (a := k - ba) (b := pb) (h := h) (by unfold In64; omega) (by omega)
  generalize (k - ba) / pb = J at *
  have f2 := fun h => jbQ (zu hC T258) (a := J) (b := (bits.length : Nat)) (h := h) (by unfold In64; omega) (by omega)
  have rm := jrB (j := J) (n := (bits.length : Int))
  have m1 := Int.emod_nonneg J (show (bits.length : Int) ≠ 0 by omega)
  have m2 := Int.emod_lt_of_pos J (show (0 : Int) < bits.length by omega)
  obtain ⟨m, hm⟩ : ∃ m : Nat, J % (bits.length : Int) = (m : Int) := ⟨(J % (bits.length : Int)).toNat, by omega⟩
  rw [hm] at rm m1 m2 hB
  rw [Int.toNat_natCast] at hB
  have ld := fun b c => (Bm b c).load (k := m) (by omega)
  have ix := B.idx (kk := .i64) (k := (m : Int)) ⟨by omega, by omega⟩
  rw [Int.toNat_natCast] at ix
  rw [← hB] at ld
  have nb : ¬ (bits.length : Int) = 0 := by omega
  have pq : (bits.length : Int) * (J / (bits.length : Int)) = J - m := by omega
  refine zf hC tab248 ?_; simp only [B248]; refine zs2 @B.len @nb ?_
  refine jaa.eq (f1 _) ?_
  refine zs ?_
  refine jaa.eq (f2 _) ?_
  have jm : J - (J - (m : Int)) = m := by omega
  refine zs4 @pq @jm @ix @ld ?_
  exact (HSub.push1 _ _).push _
end
end Go.Ae
namespace Go.Ae
section
variable {C : Ctx}
theorem jh0 (hC : Has C T139) {a s n : Int} {h : Heap} : ACalls C 139 [.int .u32 a, .int .u32 s, .int .i64 n] h (fun r h' => r = .int .u32 (phI a s n) ∧ h' = h) := by
 refine zf hC tab139 ?_; simp only [B139]; refine zs1 @jpG ?_
 unfold phI
 rw [Int.mul_comm s]
 rw [Int.add_emod_emod]
end
end Go.Ae
namespace Go.Ae
theorem EmOk.per {p : PlanP} {e : EmitP} (ok : EmOk p e) (n : Int) : 0 ≤ n - e.sta p (e.pl p n) ∧ n - e.sta p (e.pl p n) ≤ 8184 := by
 have a := (st_gt ok (n := n) (k := e.pl p n)).2 (Int.le_refl _)
 have b := pl_lt (dl := e.dl) (n := n) ok.den
 have c := (jrA (dl := e.dl) (sz := p.size) (k := e.pl p n) ok.en.2.1).2
 have s := jam ok.pn
 unfold EmitP.sta EmitP.pl at *
 omega
theorem jrG {p : PlanP} {e : EmitP} (ok : EmOk p e) {i : Int} (hi : 0 ≤ i) : chipI p e i = 1 ∨ chipI p e i = -1 := by
 have hN := jaQ ok.pn.1
 have o' := ok.pn.2.1
 have q : 0 ≤ i / p.o := Int.ediv_nonneg hi (by omega)
 unfold chipI
 rw [jiF (by omega)]
 rcases jfo p.d e.prn (min (i / p.o) ((lenN p.d : Int) - 1)).toNat with h | h <;> rw [h] <;> simp
section
variable {C : Ctx}
set_option maxHeartbeats 2000000 in
set_option maxRecDepth 20000 in
theorem jmv (hC : Has C T251) {p : PlanP} {e : EmitP} {vp vb vc : AV} {n : Int} {h : Heap} (ok : EmOk p e) (h65 : e.ok64) (B : RI h vb e.bits) (W : RI h vc (codeL p.d e.prn)) (v1 : vp.one = true) (hn : -10100000 ≤ n ∧ n ≤ 10100000) :
  ACalls C 251 [plA p vp, emA e vb, vc, .int .i64 n] h (fun r h' => r = smp (atV p e n) ∧ h' = h) := by
 refine ACalls.gc0 (P := fun r h' => r = smp (atV p e n) ∧ HSub h h') ?_ (fun r h' hp => ⟨by rw [hp.1]; exact jdi _, hp.2, hp.1, rfl⟩)
 have b1 := B.one
 have w1 := W.one
 have am := ok.en.2.2.1
 have pm := ok.pn.2.2.2.2
 have per := ok.per n
 have pb' := ok.plb hn
 have kp := fun h => jhM (zu hC T246) (vp := vp) (vb := vb) (h := h) ok v1 b1 hn
 have ks := fun h => jek (zu hC T241) (vp := vp) (vb := vb) (h := h) (k := e.pl p n) ok v1 b1 (by omega)
 have kb := fun h1 (q : HSub h h1) => jky (zu hC T248) (vp := vp) (k := e.pl p n) ok (B.mono q) v1 (by omega)
 have bb := ok.bit (e.pl p n)
 have cp := jrG ok per.1
 have ka := fun h => jh0 (zu hC T139) (a := e.ph) (s := e.st) (n := e.pl p n) (h := h)
 have kc := fun h => jhF (zu hC T130) (h := h) (jn0 e.ph e.st (e.pl p n))
 have cl := jrk (jn0 e.ph e.st (e.pl p n))
 have stb := ok.stb (k := e.pl p n) (by omega)
 have o' := ok.pn.2.1
 have cll : (codeL p.d e.prn).length = lenN p.d := jas _ _
 have hN := jaQ ok.pn.1
 have Wm := fun b c d => W.mono (((HSub.push1 h b).push c).push d)
 have wl := W.len
 rw [cll] at wl
 unfold atV
 generalize e.pl p n = K at *
 have sr : -200000000000 ≤ e.sta p K ∧ e.sta p K ≤ 200000000000 := ⟨stb.1, stb.2.1⟩
 clear stb
 generalize e.sta p K = S at *
 have q3 := joE (a := n - S) (b := p.o) (A := 100000) (by omega) (by omega)
 have q4 : 0 ≤ (n - S) / p.o := Int.ediv_nonneg per.1 (by omega)
 have td : (n - S).tdiv p.o = (n - S) / p.o := Int.tdiv_eq_ediv_of_nonneg per.1
 have ch : chipI p e (n - S) = (codeL p.d e.prn).getD (min ((n - S) / p.o) ((lenN p.d : Int) - 1)).toNat 0 := rfl
 obtain ⟨m, hm⟩ : ∃ m : Nat, min ((n - S) / p.o) ((lenN p.d : Int) - 1) = (m : Int) := ⟨(min ((n - S) / p.o) ((lenN p.d : Int) - 1)).toNat, by omega⟩
 rw [hm, Int.toNat_natCast] at ch
 have ld := fun b c d => (Wm b c d).load (k := m) (by omega)
 have ix := W.idx (kk := .i64) (k := (m : Int)) ⟨by omega, by omega⟩
 rw [Int.toNat_natCast] at ix
 rw [← ch] at ld
 generalize chipI p e (n - S) = x at *
 generalize lenN p.d = N at *
 generalize carP (phI e.ph e.st K) = t at *
 generalize phI e.ph e.st K = f at *
 generalize bitI p e K = b at *
 have no : ¬ p.o = 0 := by omega
 have xa : -1000 ≤ e.amp * x ∧ e.amp * x ≤ 1000 := by rcases cp with q | q <;> subst q <;> omega
 have y1 := jed xa ⟨cl.1, cl.2.1⟩
 have y2 := jed xa ⟨cl.2.2.1, cl.2.2.2⟩
 have z1 := jed (x := 0 - e.amp * x) (B := 1000) (by omega) ⟨cl.1, cl.2.1⟩
 have z2 := jed (x := 0 - e.amp * x) (B := 1000) (by omega) ⟨cl.2.2.1, cl.2.2.2⟩
 obtain ⟨tx, ty⟩ := t
 unfold plA emA at kp ks kb ⊢
 unfold smp at kc ⊢
 obtain ⟨pd, o, pb, w, mn, mx, nz, prns⟩ := p
 obtain ⟨prn, dl, rt, st, ph, amp, ba, bits⟩ := e
 dsimp only at *
 rcases bb with q | q <;> subst q <;>
 ·refine zf hC tab251 ?_; simp only [B251]; refine zs ?_
  refine jaa.eq (kp _) ?_
  refine zs1 @wl ?_
  refine jaa.eq (ks _) ?_
  refine zs6 @td @no @wl @hm @ix @ld ?_
  refine jaa.eq (kb _ (zh (HSub.refl h))) ?_
  refine zs ?_
  refine jaa.eq (ka _) ?_
  refine zs ?_
  refine jaa.eq (kc _) ?_
  refine zs ?_
  exact ⟨by grind, (zh (HSub.refl h))⟩
end
end Go.Ae
namespace Go.Ae
theorem jmw (p : PlanP) (e : EmitP) (n : Int) : madeErr p e n = 0 ∨ madeErr p e n = 2 ∨ madeErr p e n = 3 ∨ madeErr p e n = 4 ∨ madeErr p e n = 8 ∨ madeErr p e n = 18 := by
 have := jeT p e
 unfold madeErr
 split
 ·split <;> simp
 ·omega
theorem jrH {p : PlanP} {e : EmitP} {n : Int} (h : madeErr p e n = 0) : EmOk p e ∧ -10000000 ≤ n ∧ n ≤ 10000000 := by
 unfold madeErr at h
 split at h
 ·rename_i c
  split at h
  ·omega
  ·exact ⟨jrC c, by omega, by omega⟩
 ·omega
section
variable {C : Ctx}
theorem jgp (hC : Has C T240) {v w : AV} {p : PlanP} {e : EmitP} {n : Int} {h : Heap} (hp : PlI h v p) (he : EmI h w e) (h64 : p.ok64) (h65 : e.ok64) (hn : In64 n) :
  ACalls C 240 [v, w, .int .i64 n] h (fun r h' => r = .int .i64 (madeErr p e n) ∧ h' = h) := by
 refine ACalls.gc0 (P := fun r h' => r = .int .i64 (madeErr p e n) ∧ HSub h h') ?_ (fun r h' hp => ⟨by rw [hp.1]; trivial, hp.2, hp.1, rfl⟩)
 have kc := fun h1 (q : HSub h h1) => jkk (zu hC T224) (hp.mono q) (he.mono q) h64 h65
 have er := jeT p e
 obtain ⟨vp, rfl, R⟩ := hp
 obtain ⟨vb, rfl, B⟩ := he
 have v1 := R.one
 have b1 := B.one
 unfold In64 at hn
 unfold madeErr
 have sH : ∀ b c, HSub h ((h.push b).push c) := fun b c => (HSub.push1 h b).push c
 by_cases c : emitErr p e = 0
 ·rw [if_pos c]
  rw [c] at kc
  by_cases c2 : n < -10000000 ∨ 10000000 < n
  ·rw [if_pos c2]
   refine zf hC tab240 ?_; simp only [B240]; refine zs ?_
   refine jaa.eq (kc _ (sH _ _)) ?_
   (repeat' (first | (refine Br.by (fun _ => ?_) (fun _ => ?_)) | (refine zs1 @gV_u ?_)))
   all_goals first
    | (exfalso; omega)
    | exact (zh (HSub.refl h))
  ·rw [if_neg c2]
   have n1 : ¬ n < -10000000 := by omega
   have n2 : ¬ 10000000 < n := by omega
   refine zf hC tab240 ?_; simp only [B240]; refine zs ?_
   refine jaa.eq (kc _ (sH _ _)) ?_
   refine zs3 @gV_u @n1 @n2 ?_
   exact (zh (HSub.refl h))
 ·rw [if_neg c]
  generalize emitErr p e = E at *
  refine zf hC tab240 ?_; simp only [B240]; refine zs ?_
  refine jaa.eq (kc _ (sH _ _)) ?_
  refine zs1 @c ?_
  exact (zh (HSub.refl h))
end
end Go.Ae
namespace Go.Ae
def atE (p : PlanP) (e : EmitP) (n : Int) : AV := if madeErr p e n = 0 then .tuple [smp (atV p e n), .int .i64 0] else .tuple [smp (0, 0), .int .i64 (madeErr p e n)]
theorem jp9 (p : PlanP) (e : EmitP) (n : Int) : (atE p e n).free := by
 unfold atE
 split <;> exact jcn (by simp [smp, AV.free, AV.bel, AV.bels])
section
variable {C : Ctx}
end
end Go.Ae
namespace Go.Ae
section
variable {C : Ctx}
set_option maxHeartbeats 1000000 in
set_option maxRecDepth 20000 in
theorem jqa (hC : Has C T230) {v w : AV} {p : PlanP} {e : EmitP} {n : Int} {h : Heap} (hp : PlI h v p) (he : EmI h w e) (h64 : p.ok64) (h65 : e.ok64) (hn : In64 n) :
  ACalls C 230 [v, w, .int .i64 n] h (fun r h' => r = atE p e n ∧ h' = h) := by
 refine ACalls.gc0 (P := fun r h' => r = atE p e n ∧ HSub h h') ?_ (fun r h' hp => ⟨by rw [hp.1]; exact jp9 _ _ _, hp.2, hp.1, rfl⟩)
 have km := fun h1 (q : HSub h h1) => jgp (zu hC T240) (hp.mono q) (he.mono q) h64 h65 hn
 have mr := jmw p e n
 unfold atE
 obtain ⟨vp, rfl, R⟩ := hp
 obtain ⟨vb, rfl, B⟩ := he
 have v1 := R.one
 have b1 := B.one
 have sH : ∀ b c d, HSub h (((h.push b).push c).push d) := fun b c d => ((HSub.push1 h b).push c).push d
 by_cases c : madeErr p e n = 0
 ·have ok := jrH c
  rw [if_pos c]
  rw [c] at km
  have kk := fun h => jdM (zu hC T77) (h := h) h64.1 h65.1
  rw [ok.1.code] at kk
  have ka := fun vc h2 (q : HSub h h2) (W : RI h2 vc (codeL p.d e.prn)) => jmv (zu hC T251) (vp := vp) (n := n) ok.1 h65 (B.mono q) W v1 (by omega)
  generalize atV p e n = a at *
  obtain ⟨a1, a2⟩ := a
  unfold plA emA at ka
  unfold smp at ka ⊢
  dsimp only at ka ⊢
  refine zf hC tab230 ?_; simp only [B230]; refine zs ?_
  refine jaa.eq (km _ (sH _ _ _)) ?_
  refine zs ?_
  refine jaa.of (kk _) ?_
  rintro r h1 ⟨vc, rfl, s1, W⟩
  have s0 := (sH (.cells [.int .i64 p.d, .int .i64 p.o, .int .i64 p.pb, .int .i64 p.w, .int .i64 p.mn, .int .i64 p.mx, .int .i64 p.nz, vp] true 0) (.cells [.int .i64 e.prn, .int .i64 e.dl, .int .i64 e.rt, .int .u32 e.st, .int .u32 e.ph, .int .i64 e.amp, .int .i64 e.ba, vb] true 0) (.cells [.int .i64 0, .int .i64 0] true 0)).trans s1
  have gp : h1.get h.size = some (.cells [.int .i64 p.d, .int .i64 p.o, .int .i64 p.pb, .int .i64 p.w, .int .i64 p.mn, .int .i64 p.mx, .int .i64 p.nz, vp] true 0) := (s1.get _ (by simp only [Heap.size_push]; omega)).trans (by exact ze)
  have ge : h1.get (h.size + 1) = some (.cells [.int .i64 e.prn, .int .i64 e.dl, .int .i64 e.rt, .int .u32 e.st, .int .u32 e.ph, .int .i64 e.amp, .int .i64 e.ba, vb] true 0) := (s1.get _ (by simp only [Heap.size_push]; omega)).trans (by exact ze)
  have gz : h1.get (h.size + 2) = some (.cells [.int .i64 0, .int .i64 0] true 0) := (s1.get _ (by simp)).trans (by exact ze)
  have hz : h.size + 2 < h1.size := by have := s1.size; simp only [Heap.size_push] at this; omega
  refine zs3 @jac.eq_1 @gp @ge ?_
  refine jaa.eq (ka vc _ s0 W) ?_
  refine zs1 @gz ?_
  exact (zh s0)
 ·rw [if_neg c]
  generalize madeErr p e n = E at *
  unfold smp
  refine zf hC tab230 ?_; simp only [B230]; refine zs ?_
  refine jaa.eq (km _ (sH _ _ _)) ?_
  refine zs1 @c ?_
  exact (zh (HSub.refl h))
end
end Go.Ae
namespace Go.Ae
def E5 : EmitP := ⟨1, 5, 0, 0, 0, 10, 0, []⟩
theorem jsc : emitErr P0 E5 = 0 := by decide +kernel
theorem E5_64 : E5.ok64 := by unfold EmitP.ok64 E5 In64 U32; simp
def sgnL : List Nat := [1, 1, 1, 1, 1, 1, 1, 1, 1, 1, 0, 0, 0, 0, 0, 0, 1, 1, 1, 1, 0, 0, 1, 1, 1, 1, 1, 1, 0, 0, 1, 1, 0, 0, 1, 1, 0, 0, 0, 0, 0, 0, 0, 0, 1, 1, 0, 0, 0, 0, 1, 1, 0, 0, 1, 1, 1, 1, 0, 0, 0, 0]
def ringV (i : Nat) : Int × Int := if i < 5 then (0, 0) else (if sgnL.getD ((i - 5) % 62) 0 = 1 then -100 else 100, 0)
def ringL (k : Nat) : List (Int × Int) := (List.range k).map ringV ++ List.replicate (200 - k) (0, 0)
theorem jqb : ((List.range 200).all fun i => decide (i < 5) || (decide ((atV P0 E5 ((i : Nat) : Int)).1 < 0) == decide (sgnL.getD ((i - 5) % 62) 0 = 1))) = true := by decide +kernel
theorem jrI {i : Nat} (h1 : 5 ≤ i) (h2 : i < 200) : (atV P0 E5 ((i : Nat) : Int)).1 < 0 ↔ sgnL.getD ((i - 5) % 62) 0 = 1 := by
 have q := List.all_eq_true.1 jqb i (List.mem_range.2 h2)
 rw [decide_eq_false (show ¬ i < 5 by omega), Bool.false_or, beq_iff_eq] at q
 have := Bool.eq_iff_iff.1 q
 simpa using this
theorem ji9 {k : Nat} (h : k ≤ 200) : (ringL k).length = 200 := by simp [ringL]; omega
theorem joF {k : Nat} (h : k < 200) : (ringL k).set k (ringV k) = ringL (k + 1) := by
 unfold ringL
 rw [List.set_append_right _ _ (by simp), List.length_map, List.length_range, Nat.sub_self, show 200 - k = (200 - (k + 1)) + 1 by omega, List.replicate_succ, List.set_cons_zero, List.range_succ, List.map_append, List.append_assoc]
 rfl
theorem joG {k : Nat} (h : k < 200) : (ringL k).getD k (0, 0) = (0, 0) := by
 unfold ringL
 rw [List.getD_eq_getElem?_getD, List.getElem?_append_right (by simp), List.length_map, List.length_range, Nat.sub_self, List.getElem?_replicate]
 split <;> rfl
theorem ring5 : ringL 5 = List.replicate 200 (0, 0) := by decide +kernel
def RG : List (Int × Int) := ringL 200
theorem joH : bstK (scnI P0 RG 1 0 2) 62 = 5 ∧ (scnI P0 RG 1 0 2).getD 5 0 = 76880000 := by decide +kernel
theorem jqm : jcT P0 8 5 RG 1 0 2 = 0 ∧ jcT P0 8 5 RG 2 0 1 = 18 := by decide +kernel
theorem jf8 {a : Int} : ∀ {l : List (Int × Int)} {k : Nat}, k < l.length → (smps l).set (k * 2) (.int .i64 a) = smps (l.set k (a, (l.getD k (0, 0)).2))
 | [], _, h => by simp at h
 | x :: l, 0, _ => by simp [smps]
 | x :: l, k + 1, h => by
  have ih := jf8 (a := a) (l := l) (k := k) (by simpa using h)
  have e : (k + 1) * 2 = k * 2 + 1 + 1 := by omega
  have s1 : smps (x :: l) = .int .i64 x.1 :: .int .i64 x.2 :: smps l := by simp [smps]
  rw [e, s1, List.set_cons_succ, List.set_cons_succ, ih, List.set_cons_succ, List.getD_cons_succ]
  simp [smps]
def big16 (p : PlanP) (n : Nat) : Bool := decide ((6 < p.d ∧ p.d < 11) ∨ (2 < p.o ∧ p.o ≤ 8) ∨ 10 < p.prns.length ∨ 800 < n)
section
variable {C : Ctx}
theorem jfd (hC : Has C T373) {h : Heap} : ACalls C 373 [] h (fun r h' => HSub h h' ∧ ∃ vp, r = plA P0 vp ∧ RI h' vp P0.prns) := by
 refine zf hC tab373 ?_; simp only [B373]; refine zs ?_
 refine ⟨(zh (HSub.refl h)), _, rfl, RI.known (wr := true) (u := 0) (l := [1]) (by refine zs ?_; rfl) ⟨rfl, by decide⟩ (by decide)⟩
theorem jja (hC : Has C T374) {h : Heap} : ACalls C 374 [] h (fun r h' => r = gA 8 5 ∧ h' = h) := by
 refine ACalls.gc0 (P := fun r h' => r = gA 8 5 ∧ HSub h h') ?_ (fun r h' hp => ⟨by rw [hp.1]; exact ⟨trivial, trivial, trivial⟩, hp.2, hp.1, rfl⟩)
 refine zf hC tab374 ?_; simp only [B374]; refine zs ?_
 exact ⟨rfl, (zh (HSub.refl h))⟩
theorem jh1 (hC : Has C T366) {p : PlanP} {vp v : AV} {s : List (Int × Int)} {h : Heap} (R : RI h vp p.prns) (hs : SI h v s) : ACalls C 366 [plA p vp, v] h (fun r h' => r = .bool (big16 p s.length) ∧ h' = h) := by
 refine ACalls.gc0 (P := fun r h' => r = .bool (big16 p s.length) ∧ HSub h h') ?_ (fun r h' hp => ⟨by rw [hp.1]; trivial, hp.2, hp.1, rfl⟩)
 have v1 := R.one
 have hlt := R.lt
 have hl := R.len
 have sl := hs.len
 have hlt2 := hs.lt
 obtain ⟨d, o, pb, w, mn, mx, nz, l⟩ := p
 unfold plA big16
 dsimp only at *
 by_cases c1 : 6 < d ∧ d < 11
 ·rw [decide_eq_true (.inl c1)]
  obtain ⟨c2, c3⟩ := c1
  refine zf hC tab366 ?_; simp only [B366]; refine zs5 @c2 @c3 @gV_u @hl @sl ?_
  exact (zh (HSub.refl h))
 ·by_cases c2 : 2 < o ∧ o ≤ 8
  ·rw [decide_eq_true (.inr (.inl c2))]
   obtain ⟨c4, c5⟩ := c2
   by_cases c3 : 6 < d
   ·have c6 : ¬ d < 11 := fun q => c1 ⟨c3, q⟩
    refine zf hC tab366 ?_; simp only [B366]; refine zs7 @c3 @c4 @c5 @c6 @gV_u @hl @sl ?_
    exact (zh (HSub.refl h))
   ·refine zf hC tab366 ?_; simp only [B366]; refine zs6 @c3 @c4 @c5 @gV_u @hl @sl ?_
    exact (zh (HSub.refl h))
  ·have key : decide ((6 < d ∧ d < 11) ∨ (2 < o ∧ o ≤ 8) ∨ 10 < l.length ∨ 800 < s.length) = (decide (10 < (l.length : Int)) || decide (800 < (s.length : Int))) := by
    rw [Bool.eq_iff_iff, Bool.or_eq_true, decide_eq_true_eq, decide_eq_true_eq, decide_eq_true_eq]; omega
   rw [key]
   by_cases c3 : 6 < d
   ·have c6 : ¬ d < 11 := fun q => c1 ⟨c3, q⟩
    by_cases c4 : 2 < o
    ·have c5 : ¬ o ≤ 8 := fun q => c2 ⟨c4, q⟩
     by_cases c7 : 10 < (l.length : Int)
     ·rw [decide_eq_true c7, Bool.true_or]
      refine zf hC tab366 ?_; simp only [B366]; refine zs8 @c3 @c4 @c5 @c6 @c7 @gV_u @hl @sl ?_
      exact (zh (HSub.refl h))
     ·rw [decide_eq_false c7, Bool.false_or]
      refine zf hC tab366 ?_; simp only [B366]; refine zs8 @c3 @c4 @c5 @c6 @c7 @gV_u @hl @sl ?_
      exact (zh (HSub.refl h))
    ·by_cases c7 : 10 < (l.length : Int)
     ·rw [decide_eq_true c7, Bool.true_or]
      refine zf hC tab366 ?_; simp only [B366]; refine zs7 @c3 @c4 @c6 @c7 @gV_u @hl @sl ?_
      exact (zh (HSub.refl h))
     ·rw [decide_eq_false c7, Bool.false_or]
      refine zf hC tab366 ?_; simp only [B366]; refine zs7 @c3 @c4 @c6 @c7 @gV_u @hl @sl ?_
      exact (zh (HSub.refl h))
   ·by_cases c4 : 2 < o
    ·have c5 : ¬ o ≤ 8 := fun q => c2 ⟨c4, q⟩
     by_cases c7 : 10 < (l.length : Int)
     ·rw [decide_eq_true c7, Bool.true_or]
      refine zf hC tab366 ?_; simp only [B366]; refine zs7 @c3 @c4 @c5 @c7 @gV_u @hl @sl ?_
      exact (zh (HSub.refl h))
     ·rw [decide_eq_false c7, Bool.false_or]
      refine zf hC tab366 ?_; simp only [B366]; refine zs7 @c3 @c4 @c5 @c7 @gV_u @hl @sl ?_
      exact (zh (HSub.refl h))
    ·by_cases c7 : 10 < (l.length : Int)
     ·rw [decide_eq_true c7, Bool.true_or]
      refine zf hC tab366 ?_; simp only [B366]; refine zs6 @c3 @c4 @c7 @gV_u @hl @sl ?_
      exact (zh (HSub.refl h))
     ·rw [decide_eq_false c7, Bool.false_or]
      refine zf hC tab366 ?_; simp only [B366]; refine zs6 @c3 @c4 @c7 @gV_u @hl @sl ?_
      exact (zh (HSub.refl h))
set_option maxHeartbeats 2000000 in
set_option maxRecDepth 20000 in
theorem jf9 (hC : Has C T372) {h : Heap} : ACalls C 372 [] h (fun r h' => HSub h h' ∧ SI h' r RG) := by
 have kp := fun H => jfd (zu hC T373) (h := H)
 have ka : ∀ vp H (_R : RI H vp P0.prns) (n : Int) (_hn : In64 n), ACalls C 230 [plA P0 vp, .agg [.int .i64 1, .int .i64 5, .int .i64 0, .int .u32 0, .int .u32 0, .int .i64 10, .int .i64 0, .nilslice], .int .i64 n] H (fun r h' => r = atE P0 E5 n ∧ h' = H) := fun vp H (R : RI H vp P0.prns) (n : Int) (hn : In64 n) => jqa (zu hC T230) (v := plA P0 vp) (w := emA E5 .nilslice) (p := P0) (e := E5) (n := n) (h := H) ⟨vp, rfl, R⟩ ⟨.nilslice, rfl, RI.nil⟩ P0_64 E5_64 hn
 have hz := jcf (p := (0, 0)) (n := 200)
 simp only at hz
 have atE5 : ∀ k : Nat, k < 200 → atE P0 E5 (k : Nat) = .tuple [smp (atV P0 E5 (k : Nat)), .int .i64 0] := fun k hk => by
  have me : madeErr P0 E5 (k : Nat) = 0 := by unfold madeErr; rw [jsc, if_pos rfl, if_neg (by omega)]
  unfold atE; rw [if_pos me]
 have rl := fun k (hk : k ≤ 200) => ji9 hk
 have rg := fun k (hk : k < 200) => joG hk
 have rs := fun k (hk : k < 200) => joF hk
 have ra := fun k (h1 : 5 ≤ k) (hk : k < 200) => jrI h1 hk
 have r5 := ring5
 refine zf hC tab372 ?_; simp only [B372]; refine zs1 @hz ?_
 refine jab (fun j t H => HSub h H ∧ h.size + 2 ≤ H.size ∧ t 1 = .slice h.size 0 200 (.known 200) ∧ t 2 = .ptr (h.size + 1) 0 ∧ H.get (h.size + 1) = some (.cells [.int .i64 1, .int .i64 5, .int .i64 0, .int .u32 0, .int .u32 0, .int .i64 10, .int .i64 0, .nilslice] true 0) ∧ ∃ k : Nat, H.get h.size = some (.cells (smps (ringL k)) true 0) ∧ t 3 = .int .i64 (k : Nat) ∧ 5 ≤ k ∧ k ≤ 200 ∧ j = 200 - k) (j0 := 195)
  ⟨(zh (HSub.refl h)), by simp, rfl, rfl, by exact ze, 5, by rw [r5]; exact ze, rfl, by omega, by omega, rfl⟩ ?_
 rintro j t H ⟨sH, hz2, e1, e2, ge, k, gk, e3, hk5, hk, hj⟩
 refine zs2 @e1 @e3 ?_
 refine Br.by (fun c1 => ?_) (fun c1 => ?_)
 ·have hk' : k < 200 := by omega
  have atk := atE5 k hk'
  have rak := ra k hk5 hk'
  have rvk : ringV k = (if sgnL.getD ((k - 5) % 62) 0 = 1 then -100 else 100, 0) := by unfold ringV; rw [if_neg (by omega)]
  have rlk := rl k (by omega)
  have set1 := jf8 (a := 100) (l := ringL k) (k := k) (by omega)
  have set2 := jf8 (a := -100) (l := (ringL k).set k (100, 0)) (k := k) (by rw [List.length_set]; omega)
  rw [rg k hk'] at set1
  have gs : ((ringL k).set k (100, 0)).getD k (0, 0) = (100, 0) := by rw [List.getD_eq_getElem?_getD, List.getElem?_set_self (by omega)]; rfl
  rw [gs, List.set_set] at set2
  have rsk := rs k hk'
  rw [rvk] at rsk
  have kat := fun vp H2 (R : RI H2 vp P0.prns) => ka vp H2 R (k : Nat) (by unfold In64; omega)
  rw [atk] at kat
  generalize atV P0 E5 (k : Nat) = x at *
  obtain ⟨x1, x2⟩ := x
  unfold smp at kat
  dsimp only at *
  refine zs2 @e2 @ge ?_
  refine jaa.of (kp _) ?_
  rintro r h1 ⟨s1, vp, rfl, R1⟩
  have l1 := s1.size
  simp only [Heap.size_reserve] at l1
  have g1 := (s1.get (h.size + 1) (by simp only [Heap.size_reserve]; omega)).trans (show _ = _ from (Heap.get_reserve ..).trans ge)
  have g0 := (s1.get h.size (by simp only [Heap.size_reserve]; omega)).trans (show _ = _ from (Heap.get_reserve ..).trans gk)
  have gchk : h1.get (h.size + 1) = H.get (h.size + 1) := g1.trans ge.symm
  refine zs3 @e2 @e3 @gchk ?_
  refine jaa.eq (kat _ _ R1) ?_
  have gn : h1.get (H.size + 7) = none := (s1.get _ (by simp only [Heap.size_reserve]; omega)).trans (H.wf _ (by omega))
  have sl : (smps (ringL k)).length = 400 := by rw [jaG, rlk]
  have hb : HSub h h1 := (sH.reserve 10).trans s1
  have sl2 : (smps ((ringL k).set k (100, 0))).length = 400 := by rw [jaG, List.length_set, rlk]
  refine zs6 @gn @e1 @e3 @g0 @sl @set1 ?_
  refine Br.by (fun c2 => ?_) (fun c2 => ?_)
  ·rw [if_pos (rak.1 c2)] at rsk
   rw [rsk] at set2
   refine zs4 @e1 @e3 @sl2 @set2 ?_
   exact ⟨_, ⟨(hb.put (by omega) _).put (by omega) _, by omega, e2, g1, k + 1, rfl, by omega, by omega, by omega, rfl⟩, by omega⟩
  ·rw [if_neg (fun q => c2 (rak.2 q))] at rsk
   rw [rsk]
   refine zs1 @e3 ?_
   exact ⟨_, ⟨(hb.put (by omega) _).put (by omega) _, by omega, e1, e2, g1, k + 1, rfl, by omega, by omega, by omega, rfl⟩, by omega⟩
 ·obtain rfl : k = 200 := by omega
  refine zs1 @e1 ?_
  exact ⟨sH, SI.known gk ⟨(rl 200 (by omega)).symm, by omega⟩ (Nat.le_refl _)⟩
theorem eqs4 {a b c d : Int} : eqsA false [(0, false), (1, false), (2, false), (3, false)] (.agg [.int .i64 a, .int .i64 b, .int .i64 c, .int .i64 d]) (.agg [.int .i64 a, .int .i64 b, .int .i64 c, .int .i64 d]) = some (.bool true) := by
 simp [eqsA, jat]
theorem eqs2 {a b : Int} : eqsA true [(0, false), (1, false)] (.agg [.int .i64 a, .int .i64 b]) (.agg [.int .i64 a, .int .i64 b]) = some (.bool false) := by
 simp [eqsA, jat]
theorem joI {l : List (Int × Int)} {H : Heap} {i : Nat} (hg : H.get i = some (.cells [] true 0)) (hl : l.length ≤ 1000) : ∃ v H', jah H none 2 16 (.slice i 0 0 (.known 0)) l.length (smps l) = some (v, H') ∧ HSub H H' ∧ SI H' v l := by
 by_cases c : l.length = 0
 ·rw [List.eq_nil_of_length_eq_zero c]
  exact ⟨.slice i 0 0 (.known 0), H, by simp [jah, hg, smps], HSub.refl _, SI.known (wr := true) (u := 0) (by rw [hg]; rfl) ⟨by simp, by omega⟩ (Nat.le_refl _)⟩
 ·refine ⟨.slice H.size 0 l.length (.unk 0), H.push (.cells (smps l) true 2), ?_, HSub.push1 _ _, ?_⟩
  ·simp only [jah, if_neg c, hg]
   rw [if_pos (by simp), if_neg (by omega), if_pos ⟨by omega, rfl⟩]
   simp [cut, Heap.nid, Heap.new]
  ·have g : GrwS Heap.empty (H.push (.cells (smps l) true 2)) (.slice H.size 0 l.length (.unk 0)) l :=
    ⟨⟨Nat.zero_le _, fun i hi => absurd hi (Nat.not_lt_zero i)⟩, by rw [jaG], by omega, .inr ⟨H.size, [], Nat.zero_le _, rfl, by rw [List.append_nil, Heap.get_push, if_pos rfl]⟩⟩
   exact Grw.sl g
theorem joJ {T : Int} (h : 0 < T ∧ T ≤ 330000) : claimB T 76880000 2 = decide (T < 6200) := by
 unfold claimB
 rw [Bool.eq_iff_iff, decide_eq_true_eq, decide_eq_true_eq]
 constructor
 ·intro q
  rcases Int.lt_or_le T 6200 with c | c
  ·exact c
  ·have := Int.mul_le_mul c c (by omega) (by omega)
   omega
 ·intro q
  have := Int.mul_le_mul (show T ≤ 6199 by omega) (show T ≤ 6199 by omega) (by omega) (by omega)
  omega
set_option maxHeartbeats 2000000 in
set_option maxRecDepth 20000 in
theorem jh2 (hC : Has C T367) {h : Heap} : ACalls C 367 [] h (fun r h' => r = .bool true ∧ h' = h) := by
 refine ACalls.gc0 (P := fun r h' => r = .bool true ∧ HSub h h') ?_ (fun r h' hp => ⟨by rw [hp.1]; trivial, hp.2, hp.1, rfl⟩)
 have kr := fun H => jf9 (zu hC T372) (h := H)
 have kp := fun H => jfd (zu hC T373) (h := H)
 have kg := fun H => jja (zu hC T374) (h := H)
 have ka := fun prn m v vp H (S : SI H v RG) (R : RI H vp P0.prns) (hm : In64 m) => jfc (zu hC T370) (b := 8) (sh := 5) (prn := prn) (f := 0) (m := m) S R P0_64 (by unfold In64; omega) hm
 have kt := fun vp H (R : RI H vp P0.prns) => jdb (zu hC T318) (h := H) (b := 8) (s := 5) (prn := 1) R P0_64
 have pt := jsb
 have o1 : jdA P0 8 5 RG 1 0 2 = .tuple [hitA 1 5 76880000 2, .bool (decide (thrI P0 5 1 < 6200)), .int .i64 0] := by
  have e62 : P0.size.toNat = 62 := by rw [joD]; rfl
  unfold jdA hitI
  rw [if_pos jqm.1, e62, joH.1, joH.2, joJ ⟨pt.1, pt.2.1⟩]
  rfl
 have o2 : jdA P0 8 5 RG 2 0 1 = .tuple [hitA 0 0 0 0, .bool false, .int .i64 18] := by
  unfold jdA
  rw [jqm.2, if_neg (by decide)]
 rw [if_pos jr9.1] at kt
 have ka1 := fun v vp H S R => ka 1 2 v vp H S R (by unfold In64; omega)
 have ka2 := fun v vp H S R => ka 2 1 v vp H S R (by unfold In64; omega)
 rw [o1] at ka1
 rw [o2] at ka2
 clear ka o1 o2 pt
 generalize thrI P0 5 1 = T at *
 unfold hitA tup2 gA at *
 have ez : (decide (T < 6200) == decide (T < 6200)) = true := by simp
 refine zf hC tab367 ?_; simp only [B367]; refine zs ?_
 refine jaa.of (kr _) ?_
 rintro r h1 ⟨s1, S1⟩
 refine zs ?_
 refine jaa.of (kp _) ?_
 rintro r2 h2 ⟨s2, vp, rfl, R2⟩
 refine zs ?_
 refine jaa.eq (kg _) ?_
 refine zs ?_
 refine jaa.of (ka1 _ _ _ (S1.mono s2) R2) ?_
 rintro r3 h3 ⟨rfl, s3⟩
 have s13 := (s1.trans s2).trans s3
 refine zs ?_
 refine jaa.of (kp _) ?_
 rintro r4 h4 ⟨s4, vp4, rfl, R4⟩
 have g4 := s4.get h3.size (by simp)
 rw [jaf rfl] at g4
 refine zs ?_
 refine jaa.eq (kg _) ?_
 refine zs ?_
 refine jaa.eq (kt _ _ R4) ?_
 refine zs ?_
 refine jaa.of (kr _) ?_
 rintro r5 h5 ⟨s5, S5⟩
 have g5 := (s5.get _ (Heap.lt_of_get g4)).trans g4
 refine zs ?_
 refine jaa.of (kp _) ?_
 rintro r6 h6 ⟨s6, vp6, rfl, R6⟩
 have g6 := (s6.get _ (Heap.lt_of_get g5)).trans g5
 refine zs ?_
 refine jaa.eq (kg _) ?_
 refine zs ?_
 refine jaa.of (ka2 _ _ _ (S5.mono s6) R6) ?_
 rintro r7 h7 ⟨rfl, s7⟩
 have g7 := (s7.get _ (Heap.lt_of_get g6)).trans g6
 have l7 := Heap.lt_of_get g7
 have eq1 : eqsA false [(0, false), (1, false), (2, false), (3, false)] (.agg [.int .i64 1, .int .i64 5, .int .i64 76880000, .int .i64 2]) (.agg [.int .i64 1, .int .i64 5, .int .i64 76880000, .int .i64 2]) = some (.bool true) := eqs4
 refine zs3 @g7 @ez @eq1 ?_
 exact (zh ((s13.trans ((HSub.push1 _ _).trans (s4.trans (s5.trans (s6.trans s7)))))))
end
end Go.Ae
namespace Go.Ae
section
variable {C : Ctx}
set_option maxHeartbeats 4000000 in
set_option maxRecDepth 20000 in
theorem AcquireSearches_law (hC : Has C T365) {v vp : AV} {s : List (Int × Int)} {d o pb w mn mx nz b sh prn f m : Int} {l : List Int} {h : Heap} (hs : SI h v s) (i1 : In64 d) (i2 : In64 o) (i3 : In64 pb) (i4 : In64 w) (i5 : In64 mn) (i6 : In64 mx) (i7 : In64 nz) (R : RI h vp l) (_i8 : In64 b) (_i9 : In64 sh) (_i10 : In64 prn) (hf : In64 f) (hm : In64 m) (_hxs : ∀ p ∈ s, In64 p.1 ∧ In64 p.2) (hx : ∀ x ∈ l, In64 x) :
  ACalls C 365 [v, .agg [.int .i64 d, .int .i64 o, .int .i64 pb, .int .i64 w, .int .i64 mn, .int .i64 mx, .int .i64 nz, vp], .agg [.int .i64 b, .int .i64 sh], .int .i64 prn, .int .i64 f, .int .i64 m] h (fun r _ => r = .bool true) := by
 have xp : ∃ p : PlanP, p = ⟨d, o, pb, w, mn, mx, nz, l⟩ := ⟨_, rfl⟩
 obtain ⟨p, hp⟩ := xp
 have R : RI h vp p.prns := by rw [hp]; exact R
 have p64 : p.ok64 := by rw [hp]; exact ⟨i1, i2, i3, i4, i5, i6, i7, hx⟩
 have v1 := R.one
 have sl := hs.len
 have hlt := hs.lt
 have kw := fun H => jh2 (zu hC T367) (h := H)
 have kl := fun H (q : HSub h H) => jh1 (zu hC T366) (h := H) (R.mono q) (hs.mono q)
 have ea : plA p vp = .agg [.int .i64 d, .int .i64 o, .int .i64 pb, .int .i64 w, .int .i64 mn, .int .i64 mx, .int .i64 nz, vp] := by rw [hp]; rfl
 cases c : big16 p s.length with
 | true =>
  rw [c] at kl
  rw [ea] at kl
  refine zf hC tab365 ?_; simp only [B365]; refine zs ?_
  refine jaa.eq (kl _ (zh (HSub.refl h))) ?_
  refine zs ?_
  refine jaa.eq (kw _) ?_
  exact ze
 | false =>
  have c' := of_decide_eq_false c
  have lb : ji8 p = false := by
   unfold ji8
   rw [decide_eq_false_iff_not]; omega
  have s8 : s.length ≤ 800 := by omega
  have ht : p.err = 0 → gErr b sh = 0 → thrI p sh prn < 3000000000 := fun e g => joC (jc9 e) (jbJ g).2.2 lb prn
  have k1 := fun vc H (S : SI H vc s) (q : HSub h H) => joB (zu hC T368) (h := H) (p := p) (prn := prn) (f := f) (m := m) S (R.mono q) p64 hf hm
  have k2 := fun H (q : HSub h H) => jms (zu hC T369) (h := H) (p := p) (prn := prn) (f := f) (m := m) (hs.mono q) (R.mono q) p64 hf hm
  have k3 := fun vc H (S : SI H vc s) (q : HSub h H) => jfc (zu hC T370) (h := H) (p := p) (b := b) (sh := sh) (prn := prn) (f := f) (m := m) S (R.mono q) p64 hf hm
  have k4 := fun H (q : HSub h H) => jhZ (zu hC T371) (h := H) (p := p) (b := b) (sh := sh) (prn := prn) (f := f) (m := m) (hs.mono q) (R.mono q) p64 hf hm ht
  have kq := fun va vb H (A : RI H va (if scanErr p s prn f m = 0 then scnI p s prn f m else [])) (B : RI H vb (if scanErr p s prn f m = 0 then scnI p s prn f m else [])) => jlQ (zu hC T12) A B
  have out : ∃ (a1 a2 a3 a4 e : Int) (cb : Bool), jdA p b sh s prn f m = .tuple [.agg [.int .i64 a1, .int .i64 a2, .int .i64 a3, .int .i64 a4], .bool cb, .int .i64 e] := by
   unfold jdA hitI hitA
   split <;> exact ⟨_, _, _, _, _, _, rfl⟩
  obtain ⟨a1, a2, a3, a4, e, cb, out⟩ := out
  rw [out] at k3 k4
  rw [c] at kl
  rw [ea] at kl k1 k2 k3 k4
  generalize (if scanErr p s prn f m = 0 then scnI p s prn f m else []) = L at *
  generalize scanErr p s prn f m = E at *
  unfold gA at *
  have ez : (cb == cb) = true := by simp
  have eq4 : eqsA false [(0, false), (1, false), (2, false), (3, false)] (.agg [.int .i64 a1, .int .i64 a2, .int .i64 a3, .int .i64 a4]) (.agg [.int .i64 a1, .int .i64 a2, .int .i64 a3, .int .i64 a4]) = some (.bool true) := eqs4
  clear out ht lb hx p64
  refine zf hC tab365 ?_; simp only [B365]; refine zs ?_
  refine jaa.eq (kl _ (zh (HSub.refl h))) ?_
  have cp := joI (l := s) (H := ((h.push (.cells [.int .i64 d, .int .i64 o, .int .i64 pb, .int .i64 w, .int .i64 mn, .int .i64 mx, .int .i64 nz, vp] true 0)).push (.cells [.int .i64 b, .int .i64 sh] true 0)).push (.cells [] true 0)) (i := h.size + 1 + 1) (by exact ze) (by omega)
  obtain ⟨vc, Hc, ap, sc, Sc⟩ := cp
  have zc := sc.size
  simp only [Heap.size_push] at zc
  have sh1 : HSub h Hc := HSub.trans (show HSub h (((h.push (.cells [.int .i64 d, .int .i64 o, .int .i64 pb, .int .i64 w, .int .i64 mn, .int .i64 mx, .int .i64 nz, vp] true 0)).push (.cells [.int .i64 b, .int .i64 sh] true 0)).push (.cells [] true 0)) from (zh (HSub.refl h))) sc
  have g7 : Hc.get h.size = some (.cells [.int .i64 d, .int .i64 o, .int .i64 pb, .int .i64 w, .int .i64 mn, .int .i64 mx, .int .i64 nz, vp] true 0) := (sc.get _ (by simp only [Heap.size_push]; omega)).trans (by exact ze)
  have g8 : Hc.get (h.size + 1) = some (.cells [.int .i64 b, .int .i64 sh] true 0) := (sc.get _ (by simp only [Heap.size_push]; omega)).trans (by exact ze)
  refine zs3 @hs.contentC @ap @g7 ?_
  refine jaa.of (k1 vc Hc Sc sh1) ?_
  rintro r h1 ⟨w1, rfl, s1, Q1⟩
  have g7 := (s1.get _ (Heap.lt_of_get g7)).trans g7
  have g8 := (s1.get _ (Heap.lt_of_get g8)).trans g8
  have t1 := sh1.trans s1
  have Sc := Sc.mono s1
  refine zs2 @jac.eq_1 @g7 ?_
  refine jaa.of (k2 h1 t1) ?_
  rintro r h2 ⟨w2, rfl, s2, Q2⟩
  have g7 := (s2.get _ (Heap.lt_of_get g7)).trans g7
  have g8 := (s2.get _ (Heap.lt_of_get g8)).trans g8
  have t2 := t1.trans s2
  have Sc := Sc.mono s2
  have Q1 := Q1.mono s2
  refine zs3 @jac.eq_1 @g7 @g8 ?_
  refine jaa.of (k3 vc h2 Sc t2) ?_
  rintro r h3 ⟨rfl, s3⟩
  have g7 := (s3.get _ (Heap.lt_of_get g7)).trans g7
  have g8 := (s3.get _ (Heap.lt_of_get g8)).trans g8
  have t3 := t2.trans s3
  have Sc := Sc.mono s3
  have Q1 := Q1.mono s3
  have Q2 := Q2.mono s3
  have l7 := Heap.lt_of_get g7
  have l8 := Heap.lt_of_get g8
  refine zs2 @g7 @g8 ?_
  refine jaa.of (k4 _ (zh t3)) ?_
  rintro r h4 ⟨rfl, s4⟩
  have t4 := HSub.trans (HSub.push1 h3 (.cells [.int .i64 a1, .int .i64 a2, .int .i64 a3, .int .i64 a4] true 0)) s4
  have g18 := s4.get h3.size (by simp)
  rw [jaf rfl] at g18
  have l18 := Heap.lt_of_get g18
  have Sc := Sc.mono t4
  have Q1 := Q1.mono t4
  have Q2 := Q2.mono t4
  have hs4 := hs.mono (t3.trans t4)
  refine zs ?_
  refine jab (fun j t H => H = h4.push (.cells [.int .i64 a1, .int .i64 a2, .int .i64 a3, .int .i64 a4] true 0) ∧ t 0 = v ∧ t 13 = vc ∧ t 14 = w1 ∧ t 15 = .int .i64 E ∧ t 16 = w2 ∧ t 17 = .int .i64 E ∧ t 18 = .ptr h3.size 0 ∧ t 19 = .bool cb ∧ t 20 = .int .i64 e ∧ t 21 = .ptr h4.size 0 ∧ t 22 = .bool cb ∧ t 23 = .int .i64 e ∧ ∃ k : Nat, t 24 = .int .i64 (k : Nat) ∧ k ≤ s.length ∧ j = s.length - k) (j0 := s.length)
   ⟨rfl, rfl, rfl, rfl, rfl, rfl, rfl, rfl, rfl, rfl, rfl, rfl, rfl, 0, rfl, by omega, rfl⟩ ?_
  rintro j t H ⟨rfl, e0, e13, e14, e15, e16, e17, e18, e19, e20, e21, e22, e23, k, e24, hk, hj⟩
  refine zs3 @e0 @e24 @sl ?_
  refine Br.by (fun c1 => ?_) (fun c1 => ?_)
  ·have hk' : k < s.length := by omega
   have hs5 := hs4.mono (HSub.push1 h4 (.cells [.int .i64 a1, .int .i64 a2, .int .i64 a3, .int .i64 a4] true 0))
   have Sc5 := Sc.mono (HSub.push1 h4 (.cells [.int .i64 a1, .int .i64 a2, .int .i64 a3, .int .i64 a4] true 0))
   have ld1 := hs5.loadA hk'
   have ld2 := Sc5.loadA hk'
   generalize s.getD k (0, 0) = x at ld1 ld2
   unfold smp at ld1 ld2
   refine zs8 @e0 @e13 @e24 @hs5.idx @Sc5.idx @ld1 @ld2 @eqs2 ?_
   exact ⟨_, ⟨e14, e15, e16, e17, e18, e19, e20, e21, e22, e23, k + 1, by simp, by omega, rfl⟩, by omega⟩
  ·have kqq := kq w1 w2 (h4.push (.cells [.int .i64 a1, .int .i64 a2, .int .i64 a3, .int .i64 a4] true 0)) (Q1.mono (HSub.push1 _ _)) (Q2.mono (HSub.push1 _ _))
   have e1 : decide (L = L) = true := decide_eq_true rfl
   rw [e1] at kqq
   refine zs2 @e14 @e16 ?_
   refine jaa.eq kqq ?_
   refine zs11 @e15 @e17 @e18 @e19 @e20 @e21 @e22 @e23 @g18 @eq4 @ez ?_
   refine jaa.eq (kw _) ?_
   exact ze
end
end Go.Ae
