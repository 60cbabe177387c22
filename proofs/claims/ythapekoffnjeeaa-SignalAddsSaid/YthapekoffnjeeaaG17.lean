/- Texts of the proof, part 17: a second reading of the lowered code, proved sound, and what the functions compute. -/
import Derived.Sort.Row
import Derived.Sort.Grow
import Derived.Test.YthapekoffnjeeaaG16
set_option linter.unusedSimpArgs false
set_option linter.unusedVariables false
namespace Go.Ae
open Go.Sort
end Go.Ae
namespace Go.Ae
def cs (a b : List Int) (k : Nat) : Nat → Int
 | 0 => 0
 | i + 1 => cs a b k i + a.getD i 0 * b.getD ((i + k) % b.length) 0
section
variable {C : Ctx}
end
end Go.Ae
namespace Go.Ae
section
variable {C : Ctx}
end
end Go.Ae
namespace Go.Ae
section
variable {C : Ctx}
end
end Go.Ae
namespace Go.Ae
section
variable {C : Ctx}
end
end Go.Ae
namespace Go.Ae
section
variable {C : Ctx}
end
end Go.Ae
namespace Go.Ae
section
variable {C : Ctx}
end
end Go.Ae
namespace Go.Ae
theorem CLs.two {h : Heap} {v : AV} {d o p q : Int} {vs : List AV} (H : CLs h v d o [p, q] vs) : ∃ w1 w2, RI h w1 (sampL d p o.toNat) ∧ RI h w2 (sampL d q o.toNat) ∧ idxA 2 v (.int .i64 0) = some (elA 2 v 0) ∧ idxA 2 v (.int .i64 1) = some (elA 2 v 1) ∧
  Ae.loadA h true 2 (elA 2 v 0) = some (.agg [w1, .int .i64 o]) ∧ Ae.loadA h true 2 (elA 2 v 1) = some (.agg [w2, .int .i64 o]) ∧ jbF 0 (elA 2 v 0) = some (elF 2 v 0 0) ∧ Ae.loadA h false 1 (elF 2 v 0 0) = some w1 := by
 obtain ⟨w1, w2, rfl⟩ : ∃ w1 w2, vs = [w1, w2] := by
  have := H.len
  match vs, this with
  | [a, b], _ => exact ⟨a, b, rfl⟩
 have l0 := H.sl.loadA (k := 0) (by simp)
 have l1 := H.sl.loadA (k := 1) (by simp)
 have lf := H.sl.loadE (k := 0) (off := 0) (by simp) (by decide)
 exact ⟨w1, w2, H.ri 0 (by simp), H.ri 1 (by simp), H.sl.idx (k := 0) (by simp), H.sl.idx (k := 1) (by simp), l0, l1, H.sl.fldE 0 0 (by simp), lf⟩
theorem CLs.one {h : Heap} {v : AV} {d o p : Int} {vs : List AV} (H : CLs h v d o [p] vs) : ∃ w1, RI h w1 (sampL d p o.toNat) ∧ idxA 2 v (.int .i64 0) = some (elA 2 v 0) ∧ Ae.loadA h true 2 (elA 2 v 0) = some (.agg [w1, .int .i64 o]) := by
 obtain ⟨w1, rfl⟩ : ∃ w1, vs = [w1] := by
  have := H.len
  match vs, this with
  | [a], _ => exact ⟨a, rfl⟩
 exact ⟨w1, H.ri 0 (by simp), H.sl.idx (k := 0) (by simp), H.sl.loadA (k := 0) (by simp)⟩
def joX (d o p q m s : Int) : Prop := jrS d o [p, q] = 0 ∧ (-1 ≤ s ∧ s ≤ 1) ∧ 0 ≤ m ∧ m ≤ lenN d * o + min s 0
instance (d o p q m s : Int) : Decidable (joX d o p q m s) := by unfold joX; exact inferInstance
section
variable {C : Ctx}
end
end Go.Ae
namespace Go.Ae
theorem GrwS.at {h0 h : Heap} {v : AV} {l : List (Int × Int)} (A : GrwS h0 h v l) (hl : 0 < l.length) : ∃ i ex, h0.size ≤ i ∧ v = .slice i 0 l.length (.unk 0) ∧ h.get i = some (.cells (smps l ++ ex) true 2) := by
 obtain ⟨_, _, _, ⟨_, h1⟩ | ⟨i, ex, hi, hv, hg⟩⟩ := A
 ·omega
 ·exact ⟨i, ex, hi, hv, hg⟩
theorem GrwS.turn {h0 h : Heap} {i : Nat} {l : List (Int × Int)} {ex : List AV} {k : Nat} {x y : Int} (A : GrwS h0 h (.slice i 0 l.length (.unk 0)) l) (hi : h0.size ≤ i) (hg : h.get i = some (.cells (smps l ++ ex) true 2)) (hk : k < l.length) (hx : (l.getD k (0, 0)).1 = x) :
  (smps l ++ ex).set (k * 2 + 1) (.int .i64 y) = smps (l.set k (x, y)) ++ ex ∧ GrwS h0 (h.put i (.cells (smps (l.set k (x, y)) ++ ex) true 2)) (.slice i 0 l.length (.unk 0)) (l.set k (x, y)) := by
 have hlt := Heap.lt_of_get hg
 have hle : (l.set k (x, y)).length = l.length := List.length_set
 refine ⟨?_, ⟨A.sub.put hi _, jaW, by have := A.2.2.1; omega, .inr ⟨i, ex, hi, by rw [hle], jcr rfl hlt⟩⟩⟩
 rw [List.set_append_left _ _ (by rw [jaW]; omega)]
 congr 1
 clear A hg hi hlt hle
 induction l generalizing k with
 | nil => simp at hk
 | cons p l ih =>
  cases k with
  | zero =>
   simp only [List.getD_cons_zero] at hx
   rw [jbt, List.set_cons_zero, jbt, hx]; rfl
  | succ k =>
   rw [List.getD_cons_succ] at hx
   rw [show (k + 1) * 2 + 1 = k * 2 + 1 + 1 + 1 by omega, jbt, List.set_cons_succ, List.set_cons_succ, List.set_cons_succ, jbt, ih (by simpa using hk) hx]
section
variable {C : Ctx}
end
end Go.Ae
namespace Go.Ae
section
variable {C : Ctx}
end
end Go.Ae
namespace Go.Ae
section
variable {C : Ctx}
end
end Go.Ae
namespace Go.Ae
def LLI (h : Heap) (v : AV) (ll : List (List Int)) : Prop := ∃ vs : List AV, SL h 1 v ll.length vs ∧ vs.length = ll.length ∧ ∀ i, i < ll.length → RI h (vs.getD i .nilslice) (ll.getD i [])
theorem LLI.mono {h h' : Heap} {v : AV} {ll : List (List Int)} (H : LLI h v ll) (hs : HSub h h') : LLI h' v ll := by
 obtain ⟨vs, a, b, c⟩ := H
 exact ⟨vs, a.mono hs, b, fun i hi => (c i hi).mono hs⟩
theorem LLI.len {h : Heap} {v : AV} {ll : List (List Int)} (H : LLI h v ll) : lenA v = some (.int .i64 ll.length) := by obtain ⟨vs, a, _, _⟩ := H; exact a.len
theorem LLI.nil {h : Heap} : LLI h .nilslice [] := ⟨[], ⟨rfl, by decide, .inl ⟨rfl, rfl⟩⟩, rfl, fun i hi => by simp at hi⟩
theorem LLI.at {h : Heap} {v : AV} {ll : List (List Int)} (H : LLI h v ll) {i : Nat} (hi : i < ll.length) : ∃ w, idxA 1 v (.int .i64 (i : Nat)) = some (elA 1 v i) ∧ loadA h false 1 (elA 1 v i) = some w ∧ RI h w (ll.getD i []) := by
 obtain ⟨vs, a, b, c⟩ := H
 refine ⟨vs.getD i .nilslice, a.idx ⟨by omega, by omega⟩, ?_, c i hi⟩
 rw [SL.load1 a hi]
 simp [show i < vs.length by omega]
section
variable {C : Ctx}
def Two (h0 h : Heap) (v w : AV) (p : Int × Int) : Prop := ∃ j, h0.size ≤ j ∧ w = .slice j 0 2 (.known 2) ∧ h.get j = some (.cells [.int .i64 p.1, .int .i64 p.2] true 0) ∧ j ∉ v.ids
end
end Go.Ae
namespace Go.Ae
def tabE (d : Int) (ps : List Int) : Nat → Int
 | 0 => 0
 | k + 1 => if tabE d ps k ≠ 0 then tabE d ps k else if jcT d (ps.getD k 0) ≠ 0 then 2 else if ((ps.take k).any fun y => ps.getD k 0 == y) = true then 8 else 0
def tabErr (d o : Int) (ps : List Int) : Int := if jfN d o ≠ 0 then 2 else if ps.length = 0 then 3 else if 8 < ps.length then 4 else tabE d ps ps.length
theorem Grw.move {h0 h F : Heap} {sz n : Nat} {w : AV} {ds : List AV} (B : Grw h0 h sz w n ds) (hs : HSub h0 F) (hg : ∀ x ∈ w.ids, F.get x = h.get x) : Grw h0 F sz w n ds := by
 obtain ⟨_, hl, hn, ⟨rfl, rfl⟩ | ⟨i, ex, hi, rfl, hgi⟩⟩ := B
 ·exact ⟨hs, hl, hn, .inl ⟨rfl, rfl⟩⟩
 ·exact ⟨hs, hl, hn, .inr ⟨i, ex, hi, rfl, (hg i (by simp [AV.ids])).trans hgi⟩⟩
section
variable {C : Ctx}
end
end Go.Ae
namespace Go.Ae
section
variable {C : Ctx}
end
end Go.Ae
namespace Go.Ae
section
variable {C : Ctx}
end
end Go.Ae
namespace Go.Ae
abbrev keyP (x y : Int) : AV := .agg [.int .i64 x, .int .i64 y]
def ents (f : Int → Int → Int) (K : List (Int × Int)) : List (AV × AV) := K.map fun t => (keyP t.1 t.2, .int .i64 (f t.1 t.2))
theorem joY {ps : List Int} (hn : ps.Nodup) {i k : Nat} (hi : i < ps.length) (hk : k < ps.length) (e : ps.getD i 0 = ps.getD k 0) : i = k := by
 rw [List.getD_eq_getElem?_getD, List.getD_eq_getElem?_getD, List.getElem?_eq_getElem hi, List.getElem?_eq_getElem hk, Option.getD_some, Option.getD_some] at e
 have P := List.pairwise_iff_getElem.1 hn
 rcases Nat.lt_trichotomy i k with c | c | c
 ·exact absurd e (P i k hi hk c)
 ·exact c
 ·exact absurd e.symm (P k i hk hi c)
theorem jjz {ps : List Int} (hn : ps.Nodup) {i : Nat} (hi : i < ps.length) : ps.getD i 0 ∉ ps.take i := by
 intro h
 obtain ⟨j, hj, e⟩ := List.mem_iff_getElem.1 h
 have hjl : j < min i ps.length := by simpa using hj
 have hj2 : j < ps.length := by omega
 rw [List.getElem_take] at e
 have := joY hn hj2 hi (by rw [List.getD_eq_getElem?_getD (i := j), List.getElem?_eq_getElem hj2]; exact e)
 omega
/-! ### Plans -/
theorem jfC {n : Int} : ∀ {xs seen : List Int}, jbr n seen xs = 0 → (∀ x ∈ xs, 1 ≤ x ∧ x ≤ n + 2) ∧ xs.Nodup ∧ ∀ x ∈ xs, x ∉ seen
 | [], seen, h => ⟨by simp, by simp, by simp⟩
 | x :: xs, seen, h => by
  unfold jbr at h
  split at h
  ·cases h
  ·rename_i c1
   split at h
   ·cases h
   ·rename_i c2
    obtain ⟨h1, h2, h3⟩ := jfC h
    have hx : x ∉ seen := fun hm => c2 (List.any_eq_true.2 ⟨x, hm, by simp⟩)
    have c1' : 1 ≤ x ∧ x ≤ n + 2 := Classical.not_not.1 c1
    refine ⟨fun y hy => ?_, ?_, fun y hy => ?_⟩
    ·rcases List.mem_cons.1 hy with rfl | hy
     ·exact c1'
     ·exact h1 y hy
    ·exact List.nodup_cons.2 ⟨fun hm => h3 x hm (by simp), h2⟩
    ·rcases List.mem_cons.1 hy with rfl | hy
     ·exact hx
     ·exact fun hm => h3 y hy (by simp [hm])
structure PlanOk (p : PlanP) : Prop where
 nums : p.numsOk
 len : 1 ≤ p.prns.length ∧ p.prns.length ≤ 8
 prn : ∀ x ∈ p.prns, 1 ≤ x ∧ x ≤ lenN p.d + 2
 nodup : p.prns.Nodup
theorem jjA {p : PlanP} (h : p.err = 0) : PlanOk p := by
 unfold PlanP.err at h
 split at h
 ·rename_i c1
  split at h
  ·cases h
  ·split at h
   ·cases h
   ·obtain ⟨h1, h2, _⟩ := jfC h
    exact ⟨c1, by omega, h1, h2⟩
 ·cases h
theorem PlanOk.code {p : PlanP} (ok : PlanOk p) {x : Int} (hx : x ∈ p.prns) : jcT p.d x = 0 := by
 unfold jcT
 rw [if_pos ⟨ok.nums.1, (ok.prn x hx).1, (ok.prn x hx).2⟩]
theorem PlanOk.tabE {p : PlanP} (ok : PlanOk p) : ∀ k, k ≤ p.prns.length → tabE p.d p.prns k = 0
 | 0, _ => rfl
 | k + 1, hk => by
  rw [Ae.tabE, if_neg (by rw [ok.tabE k (by omega)]; decide), if_neg, if_neg]
  ·intro h
   obtain ⟨y, hy, e⟩ := List.any_eq_true.1 h
   have : p.prns.getD k 0 = y := by simpa using e
   exact jjz ok.nodup (by omega) (this ▸ hy)
  ·rw [ok.code (jbq (by omega))]; decide
theorem PlanOk.known {p : PlanP} (ok : PlanOk p) : jfN p.d p.o = 0 := by
 unfold jfN
 rw [if_pos ⟨ok.nums.1, ok.nums.2.1⟩]
theorem PlanOk.tab {p : PlanP} (ok : PlanOk p) : tabErr p.d p.o p.prns = 0 := by
 unfold tabErr
 rw [if_neg (by rw [ok.known]; decide), if_neg (by have := ok.len; omega), if_neg (by have := ok.len; omega), ok.tabE _ (Nat.le_refl _)]
theorem jfm {p : PlanP} {k : Nat} {l : List Int} (hp : p.err = 0) (hk : k < p.prns.length) : emitErr p (jbA p k l) = 0 := by
 have e := jmD (l := l) hp
 unfold emitErr at e ⊢
 rw [if_pos hp] at e ⊢
 have ha : (p.prns.any fun y => (jbA p k l).prn == y) = true := by
  rw [List.any_eq_true]
  exact ⟨_, jbq hk, by simp [jbA]⟩
 rw [if_pos ha]
 split at e
 ·exact e
 ·cases e
theorem jgB {p : PlanP} {k : Nat} {l : List Int} (hp : p.numsOk) (h64 : p.ok64) (hk : k < p.prns.length) : (jbA p k l).ok64 := by
 have h := joV (l := l) hp h64 (by omega)
 exact ⟨h64.2.2.2.2.2.2.2 _ (jbq hk), h.2⟩
theorem jjB {p : PlanP} {es : List EmitP} (h : ∀ e ∈ es, emitErr p e = 0) (nd : (es.map (·.prn)).Nodup) : ∀ n, n ≤ es.length → emsE p es n = 0
 | 0, _ => rfl
 | n + 1, hn => by
  have ih := jjB h nd n (by omega)
  have e : es.getD n eD = es[n] := by rw [List.getD_eq_getElem?_getD, List.getElem?_eq_getElem (by omega), Option.getD_some]
  refine jjp ih (by rw [e]; exact h _ (List.getElem_mem _)) (fun i hi q => ?_)
  have e2 : es.getD i eD = es[i] := by rw [List.getD_eq_getElem?_getD, List.getElem?_eq_getElem (by omega), Option.getD_some]
  rw [e, e2] at q
  have q2 : (es.map (·.prn))[i]'(by simp; omega) = (es.map (·.prn))[n]'(by simp; omega) := by simpa using q
  exact List.pairwise_iff_getElem.1 nd i n (by simp; omega) (by simp; omega) hi q2
theorem jjC {p : PlanP} {es : List EmitP} {ns : List (Int × Int)} {m : Int} (hp : p.err = 0) (hl : es.length ≤ 8) (h : ∀ e ∈ es, emitErr p e = 0) (nd : (es.map (·.prn)).Nodup) (hm : 0 ≤ m ∧ m ≤ 1048576) (hn : ns.length ≤ m) (hns : ∀ x ∈ ns, inS p.nz x) : jbo p es ns m = 0 := by
 unfold jbo
 rw [if_neg (by rw [hp]; decide), if_neg (by omega), if_neg (by rw [jjB h nd _ (Nat.le_refl _)]; decide), if_neg (by omega), if_neg (by omega), if_neg (fun ⟨x, hx, q⟩ => q (hns x hx))]
def humV (z x : Int) : Int × Int := (x % (2 * z + 1) - z, Int.tdiv x 7 % (2 * z + 1) - z)
def humL (l : List Int) (z : Int) : List (Int × Int) := l.map (humV z)
theorem jgC (l : List Int) (z : Int) : (humL l z).length = l.length := by simp [humL]
theorem joZ {l : List Int} {z : Int} {k : Nat} (hk : k < l.length) : humL (l.take (k + 1)) z = humL (l.take k) z ++ [humV z (l.getD k 0)] := by
 unfold humL
 rw [List.take_succ_eq_append_getElem hk, List.map_append]
 simp [List.getD_eq_getElem?_getD, hk]
theorem jo0 {z x : Int} (hz : 0 ≤ z) : inS z (humV z x) := by
 have a := Int.emod_nonneg x (show 2 * z + 1 ≠ 0 by omega)
 have b := Int.emod_lt_of_pos x (show 0 < 2 * z + 1 by omega)
 have c := Int.emod_nonneg (Int.tdiv x 7) (show 2 * z + 1 ≠ 0 by omega)
 have d := Int.emod_lt_of_pos (Int.tdiv x 7) (show 0 < 2 * z + 1 by omega)
 unfold humV inS
 dsimp only
 omega
theorem jo1 {l : List Int} {z : Int} (hz : 0 ≤ z) : ∀ x ∈ humL l z, inS z x := by
 intro x hx
 obtain ⟨i, _, rfl⟩ := List.mem_map.1 hx
 exact jo0 hz
def addE (p : PlanP) (m o : List Int) : List EmitP := if 1 < p.prns.length then [jbA p 0 m, jbA p 1 o] else [jbA p 0 m]
theorem jlo {p : PlanP} {m o : List Int} : 1 ≤ (addE p m o).length ∧ (addE p m o).length ≤ 2 := by
 unfold addE; split <;> simp
theorem jo2 {p : PlanP} {m o : List Int} (hp : p.err = 0) (pn : p.numsOk) (h64 : p.ok64) (h0 : 0 < p.prns.length) : ∀ e ∈ addE p m o, emitErr p e = 0 ∧ e.ok64 := by
 intro e he
 unfold addE at he
 split at he
 ·rename_i c
  simp only [List.mem_cons, List.not_mem_nil, or_false] at he
  rcases he with rfl | rfl
  ·exact ⟨jfm hp h0, jgB pn h64 h0⟩
  ·exact ⟨jfm hp c, jgB pn h64 c⟩
 ·simp only [List.mem_cons, List.not_mem_nil, or_false] at he
  subst he
  exact ⟨jfm hp h0, jgB pn h64 h0⟩
theorem jr7 {p : PlanP} {m o : List Int} (nd : p.prns.Nodup) : ((addE p m o).map (·.prn)).Nodup := by
 unfold addE
 split
 ·rename_i c
  have h0 : 0 < p.prns.length := by omega
  have ne : p.prns[0] ≠ p.prns[1] := fun e => by
   have := (List.getElem_inj nd).1 e
   omega
  simpa [jbA, List.getD_eq_getElem?_getD, h0, c] using ne
 ·simp
theorem jqx {p : PlanP} {m o : List Int} {ns : List (Int × Int)} {k : Int} (hp : p.err = 0) (pn : p.numsOk) (h64 : p.ok64) (nd : p.prns.Nodup) (h0 : 0 < p.prns.length) (hk : ns.length ≤ k ∧ k ≤ 1048576) (hns : ∀ x ∈ ns, inS p.nz x) : jbo p (addE p m o) ns k = 0 :=
 jjC hp (by have := jlo (p := p) (m := m) (o := o); omega) (fun e he => (jo2 hp pn h64 h0 e he).1) (jr7 nd) ⟨by omega, hk.2⟩ hk.1 hns
def quE (p : PlanP) (e : EmitP) : EmitP := { e with amp := p.mn }
theorem jkK {p : PlanP} {e : EmitP} (h : emitErr p e = 0) : emitErr p (quE p e) = 0 := by
 unfold emitErr at h ⊢
 split at h
 ·rename_i c
  rw [if_pos c]
  split at h
  ·rename_i c2
   rw [if_pos (show (p.prns.any fun y => (quE p e).prn == y) = true from c2)]
   split at h
   ·rename_i c3
    have pn := jih c
    have q : (quE p e).numsOk p := ⟨c3.1, c3.2.1, ⟨Int.le_refl _, pn.2.2.2.2.1.2⟩, c3.2.2.2⟩
    rw [if_pos q]
    exact h
   ·cases h
  ·cases h
 ·rename_i c; exact absurd h c
theorem jsG {p : PlanP} {e : EmitP} (h64 : p.ok64) (h : e.ok64) : (quE p e).ok64 := ⟨h.1, h.2.1, h.2.2.1, h.2.2.2.1, h.2.2.2.2.1, h64.2.2.2.2.1, h.2.2.2.2.2.2⟩
theorem jr8 {p : PlanP} {e : EmitP} {n : Int} : (atV p e n).1 * p.mn = (atV p (quE p e) n).1 * e.amp ∧ (atV p e n).2 * p.mn = (atV p (quE p e) n).2 * e.amp := by
 have e1 : (atV p (quE p e) n).1 = p.mn * chipI p e (n - e.sta p (e.pl p n)) * (1 - 2 * bitI p e (e.pl p n)) * (carP (phI e.ph e.st (e.pl p n))).1 := rfl
 have e2 : (atV p (quE p e) n).2 = p.mn * chipI p e (n - e.sta p (e.pl p n)) * (1 - 2 * bitI p e (e.pl p n)) * (carP (phI e.ph e.st (e.pl p n))).2 := rfl
 rw [e1, e2]
 unfold atV
 dsimp only
 constructor <;> grind
theorem mul1k {x a : Int} (hx : -127000 ≤ x ∧ x ≤ 127000) (ha : 0 ≤ a ∧ a ≤ 1000) : -127000000 ≤ x * a ∧ x * a ≤ 127000000 := by
 have h1 : x * a ≤ 127000 * a := Int.mul_le_mul_of_nonneg_right hx.2 ha.1
 have h2 : -127000 * a ≤ x * a := Int.mul_le_mul_of_nonneg_right hx.1 ha.1
 omega
theorem jr9 {a b c d e f g x : AV} {u : Nat} {wr : Bool} : contB 1 8 0 (some (.cells [a, b, c, d, e, f, g, x] wr u)) = some (1, [a, b, c, d, e, f, g, x]) := rfl
section
variable {C : Ctx}
end
end Go.Ae
namespace Go.Ae
section
variable {C : Ctx}
theorem EmsI.knownC {h : Heap} {L : List (EmitP × AV)} {i c n u : Nat} {wr : Bool} (hg : h.get i = some (.cells (emC L) wr u)) (hn : n = L.length) (hc : L.length ≤ c) (hl : L.length < 9223372036854775808) (hr : ∀ q ∈ L, RI h q.2 q.1.bits) : EmsI h (.slice i 0 n (.known c)) (L.map (·.1)) := by
 subst hn
 refine ⟨L, rfl, ⟨jbS L, hl, .inr ⟨i, 0, _, _, wr, u, rfl, hg, by rw [jbS]; omega, ?_, hc⟩⟩, hr⟩
 exact jgk (jbS L).symm
theorem EmsI.unkC {h : Heap} {L : List (EmitP × AV)} {i n : Nat} (hg : h.get i = some (.cells (emC L) true 8)) (hn : n = L.length) (hl : L.length < 9223372036854775808) (hr : ∀ q ∈ L, RI h q.2 q.1.bits) : EmsI h (.slice i 0 n (.unk 0)) (L.map (·.1)) := by
 subst hn
 refine ⟨L, rfl, ⟨jbS L, hl, .inr ⟨i, 0, _, _, true, 8, rfl, hg, by rw [jbS]; omega, ?_, rfl, rfl, rfl⟩⟩, hr⟩
 exact jgk (jbS L).symm
def seqL : ACode → ACode
 | .seq a _ => a
 | c => c
set_option maxHeartbeats 4000000 in
set_option maxRecDepth 20000 in
theorem jmG (hM : Has C T214) {vl vm vo vz : AV} {l m o z : List Int} {n0 : Int} {h : Heap} (hl : RI h vl l) (hm : RI h vm m) (ho : RI h vo o) (hz : RI h vz z) (hn0 : In64 n0) (hx : ∀ x ∈ l, In64 x) (hy : ∀ x ∈ m, In64 x) (hw : ∀ x ∈ o, In64 x)
  (L1 : l.length ≤ 20) (L2 : m.length ≤ 20) (L3 : o.length ≤ 20) (L4 : z.length ≤ 120) {k : Nat} (ek : n0 % (121 - (z.length : Int)) = (k : Nat)) (hk : k + z.length ≤ 120) {Q : Out → St → Prop}
  (hgood : ∀ t H vp, t 3 = vz → t 4 = .int .i64 ((z.length : Nat) + (k : Nat)) → t 11 = .bool true → (∃ c, t 12 = .ptr c 0 ∧ h.size ≤ c ∧ H.get c = some (.cells [.int .i64 (planOf l).d, .int .i64 (planOf l).o, .int .i64 (planOf l).pb, .int .i64 (planOf l).w, .int .i64 (planOf l).mn, .int .i64 (planOf l).mx, .int .i64 (planOf l).nz, vp] true 0)) → HSub h H → RI H vp (planOf l).prns → EmsI H (t 13) (addE (planOf l) m o) →
   wp C 221 none (seqR (seqR (seqR (seqR (seqR (seqR (seqR B214.code))))))) Q ⟨t, H, []⟩) :
  wp C 221 none B214.code Q ⟨argT [vl, vm, vo, vz, .int .i64 n0], h, []⟩ := by
 have e : B214.code = .seq (seqL B214.code) (.seq (seqL (seqR B214.code)) (.seq (seqL (seqR (seqR B214.code))) (.seq (seqL (seqR (seqR (seqR B214.code)))) (.seq (seqL (seqR (seqR (seqR (seqR B214.code))))) (.seq (seqL (seqR (seqR (seqR (seqR (seqR B214.code)))))) (.seq (seqL (seqR (seqR (seqR (seqR (seqR (seqR B214.code))))))) (seqR (seqR (seqR (seqR (seqR (seqR (seqR B214.code))))))))))))) := rfl
 rw [e]
 generalize seqR (seqR (seqR (seqR (seqR (seqR (seqR B214.code)))))) = T at *
 simp only [seqL, seqR, B214, zB.1]
 have pn := jem l
 have pz := jhu l
 have p64 := jjy l
 have pl0 : 0 < (planOf l).prns.length := by
  have h7 := jag (l := l) (i := 7) (n := 3) (by omega)
  show 0 < (prnK _ _).length
  rw [jdu]; omega
 have kP := jkJ (hM.sub (T' := T235) (by decide)) hl hx
 have kE := fun (u : Nat) w h1 (q : HSub h h1) (hu : u < (planOf l).prns.length) (hp : PlI h1 w (planOf l)) => jfB (u0 := u) (hM.sub (T' := T236) (by decide)) hp pn hu p64 (hm.mono q) hy
 have kE2 := fun (u : Nat) w h1 (q : HSub h h1) (hu : u < (planOf l).prns.length) (hp : PlI h1 w (planOf l)) => jfB (u0 := u) (hM.sub (T' := T236) (by decide)) hp pn hu p64 (ho.mono q) hw
 have nd := (jjA pz).nodup
 generalize planOf l = p at *
 have kn := fun h => jeQ (hM.sub (T' := T212) (by decide)) (h := h)
 have T1 := fun h1 => jdN (h := h1) (x := n0) (n := 121 - (z.length : Int)) (hM.sub (T' := T23) (by decide)) hn0 (by omega)
 rw [ek] at T1
 refine zs ?_
 refine jaa.eq (kn _) ?_
 refine zs5 @hl.len @hm.len @ho.len @hz.len @gV_u ?_
 refine jaa.of kP ?_
 rintro w1 h1 ⟨s1, vp, rfl, R⟩
 have v1 := R.one
 refine zs1 @hz.len ?_
 refine jaa.eq (T1 _) ?_
 have q8 : loadB true 8 0 (some (.cells [.int .i64 p.d, .int .i64 p.o, .int .i64 p.pb, .int .i64 p.w, .int .i64 p.mn, .int .i64 p.mx, .int .i64 p.nz, vp] true 0)) = some (.agg [.int .i64 p.d, .int .i64 p.o, .int .i64 p.pb, .int .i64 p.w, .int .i64 p.mn, .int .i64 p.mx, .int .i64 p.nz, vp]) := rfl
 refine zs1 @q8 ?_
 refine jaa.of (kE 0 _ _ (s1.push _) pl0 ⟨vp, rfl, R.mono (HSub.push1 _ _)⟩) ?_
 rintro w2 h2 ⟨s2, vb, rfl, Bb, fb⟩
 have q7 : ([.int .i64 p.d, .int .i64 p.o, .int .i64 p.pb, .int .i64 p.w, .int .i64 p.mn, .int .i64 p.mx, .int .i64 p.nz, vp] : List AV)[7]? = some vp := rfl
 have b1 := Bb.one
 have gp : h2.get h1.size = some (.cells [.int .i64 p.d, .int .i64 p.o, .int .i64 p.pb, .int .i64 p.w, .int .i64 p.mn, .int .i64 p.mx, .int .i64 p.nz, vp] true 0) := (s2.get _ (by simp)).trans (jaz rfl)
 have hz2 : h1.size < h2.size := by have := s2.size; simp only [Heap.size_push] at this; omega
 have R2 := R.mono ((HSub.push1 _ _).trans s2)
 have S2 := (s1.push (.cells [.int .i64 p.d, .int .i64 p.o, .int .i64 p.pb, .int .i64 p.w, .int .i64 p.mn, .int .i64 p.mx, .int .i64 p.nz, vp] true 0)).trans s2
 have R2l := R2.len
 refine zs4 @jby @gp @q7 @R2l ?_
 refine Br.by (fun c => ?_) (fun c => ?_)
 ·refine zs3 @gp @q8 @Heap.wf ?_
  refine jaa.of (kE2 1 _ _ (S2.push _) (by omega) ⟨vp, rfl, R2.mono (HSub.push1 _ _)⟩) ?_
  rintro w3 h3 ⟨s3, vc, rfl, Bc, fc⟩
  have c1 := Bc.one
  have gp3 := (s3.get _ (by simp only [Heap.size_push]; omega)).trans ((jav hz2).trans gp)
  have gq := (s3.get _ (by simp only [Heap.size_push]; omega)).trans (jaz (h := h2) (i := h2.size) rfl)
  have z3 : h2.size < h3.size := Heap.lt_of_get gq
  refine zs5 @jby @jr9 @gq @jhh @Heap.wf ?_
  have S3 : HSub h2 h3 := (HSub.push1 h2 _).trans s3
  have pu := fun b1 b2 => ((HSub.push1 h3 b1).push b2)
  refine hgood _ _ vp rfl rfl rfl ⟨h1.size, rfl, s1.size, ((pu _ _).get _ (by omega)).trans gp3⟩ (S2.trans (S3.trans (pu _ _))) (R2.mono (S3.trans (pu _ _))) ?_
  have ea : addE p m o = [jbA p 0 m, jbA p 1 o] := if_pos (by omega)
  rw [ea]
  exact EmsI.unkC (L := [(jbA p 0 m, vb), (jbA p 1 o, vc)]) (jaz (by simp)) rfl (by simp) (fun q hq => by
   simp only [List.mem_cons, List.not_mem_nil, or_false] at hq
   rcases hq with rfl | rfl
   ·exact Bb.mono (S3.trans (pu _ _))
   ·exact Bc.mono (pu _ _))
 ·refine zs ?_
  refine hgood _ _ vp rfl rfl rfl ⟨h1.size, rfl, s1.size, (jav hz2).trans gp⟩ (S2.push _) (R2.mono (HSub.push1 _ _)) ?_
  have ea : addE p m o = [jbA p 0 m] := if_neg (fun q => c (by omega))
  rw [ea]
  exact EmsI.knownC (L := [(jbA p 0 m, vb)]) (jaz rfl) rfl (Nat.le_refl _) (by simp) (fun q hq => by
   rw [List.mem_singleton] at hq
   subst hq
   exact Bb.mono (HSub.push1 _ _))
end
end Go.Ae
namespace Go.Ae
section
variable {C : Ctx}
set_option maxHeartbeats 4000000 in
set_option maxRecDepth 20000 in
theorem jqy (hM : Has C T214) {vz : AV} {z : List Int} {p : PlanP} {vp v4 ve : AV} {H0 : Heap} {c : Nat} {t : Nat → AV} (hz : RI H0 vz z) (hv : ∀ x ∈ z, In64 x) (nz : 0 ≤ p.nz ∧ p.nz ≤ 100000) (L4 : z.length ≤ 120)
  (hc : H0.get c = some (.cells [.int .i64 p.d, .int .i64 p.o, .int .i64 p.pb, .int .i64 p.w, .int .i64 p.mn, .int .i64 p.mx, .int .i64 p.nz, vp] true 0)) (e3 : t 3 = vz) (e4 : t 4 = v4) (e11 : t 11 = .bool true) (e12 : t 12 = .ptr c 0) (e13 : t 13 = ve) {Q : Out → St → Prop}
  (hgood : ∀ t' H', t' 4 = v4 → t' 11 = .bool true → t' 12 = .ptr c 0 → t' 13 = ve → HSub H0 H' → SI H' (t' 14) (humL z p.nz) → wp C 221 none (seqR (seqR (seqR (seqR (seqR (seqR (seqR (seqR (seqR B214.code))))))))) Q ⟨t', H', []⟩) :
  wp C 221 none (seqR (seqR (seqR (seqR (seqR (seqR (seqR B214.code))))))) Q ⟨t, H0, []⟩ := by
 have T1 := fun (x : Int) (hx : In64 x) h1 => jdN (h := h1) (x := x) (n := 2 * p.nz + 1) (hM.sub (T' := T23) (by decide)) hx (by omega)
 have e : seqR (seqR (seqR (seqR (seqR (seqR (seqR B214.code)))))) = .seq (seqL (seqR (seqR (seqR (seqR (seqR (seqR (seqR B214.code)))))))) (.seq (seqL (seqR (seqR (seqR (seqR (seqR (seqR (seqR (seqR B214.code))))))))) (seqR (seqR (seqR (seqR (seqR (seqR (seqR (seqR (seqR B214.code)))))))))) := rfl
 rw [e]
 generalize seqR (seqR (seqR (seqR (seqR (seqR (seqR (seqR (seqR B214.code)))))))) = T at *
 simp only [seqL, seqR, B214, zB.1]
 refine zs2 @e3 @hz.len ?_
 refine jaA (fun j t h' => ∃ k : Nat, GrwS H0 h' (t 14) (humL (z.take k) p.nz) ∧ t 3 = vz ∧ t 4 = v4 ∧ t 11 = .bool true ∧ t 12 = .ptr c 0 ∧ t 13 = ve ∧ t 15 = .int .i64 (k : Nat) ∧ k ≤ z.length ∧ j = z.length - k) (j0 := z.length)
  ⟨0, GrwS.nil _, e3, e4, e11, e12, e13, rfl, by omega, rfl⟩ ?_
 rintro j t h' ⟨k, A, e3, e4, e11, e12, e13, e15, hk, hj⟩
 have g := (A.sub.get _ (Heap.lt_of_get hc)).trans hc
 have q6 : ([.int .i64 p.d, .int .i64 p.o, .int .i64 p.pb, .int .i64 p.w, .int .i64 p.mn, .int .i64 p.mx, .int .i64 p.nz, vp] : List AV)[6]? = some (.int .i64 p.nz) := rfl
 refine zs3 @e3 @e15 @hz.len ?_
 refine Br.by (fun c => ?_) (fun c => ?_)
 ·have hk' : k < z.length := by omega
  have hzk := hv _ (jbq hk')
  have ix := hz.idx (kk := .i64) (k := ((k : Nat) : Int)) ⟨by omega, by omega⟩
  rw [Int.toNat_natCast] at ix
  have ld := fun H' (q : HSub H0 H') => (hz.mono q).load (k := k) hk'
  have sA := A.sub
  refine zs8 @e3 @e12 @e15 @g @q6 @ix @ld @A.sub ?_
  have hb : -4611686018427387904 ≤ Int.tdiv (z.getD k 0) 7 ∧ Int.tdiv (z.getD k 0) 7 ≤ 4611686018427387904 := by
   have := Int.natAbs_tdiv (z.getD k 0) 7
   have t2 : (Int.tdiv (z.getD k 0) 7).natAbs = (z.getD k 0).natAbs / 7 := this
   unfold In64 at hzk; omega
  have h7 : In64 (Int.tdiv (z.getD k 0) 7) := by unfold In64; omega
  refine jaa.eq (T1 _ hzk _) ?_
  refine zs8 @e3 @e12 @e15 @g @q6 @ix @ld @A.sub ?_
  refine jaa.eq (T1 _ h7 _) ?_
  have m1 := (jo0 (z := p.nz) (x := z.getD k 0) nz.1)
  unfold humV inS at m1
  dsimp only at m1
  have gN : ∀ i, h'.size ≤ i → h'.get i = none := fun i hi => by
   cases q : h'.get i with
   | none => rfl
   | some b => have := Heap.lt_of_get q; omega
  have gN27 := gN (h'.size + 27) (by omega)
  have gN28 := gN (h'.size + 28) (by omega)
  have lk : (humL (z.take k) p.nz).length = k := by rw [jgC, List.length_take]; omega
  have ap := fun b => GrwS.appG (H := (h'.reserve 30).put (h'.size + 27) b) (k := h'.size + 28) (a := z.getD k 0 % (2 * p.nz + 1) - p.nz) (b := (z.getD k 0).tdiv 7 % (2 * p.nz + 1) - p.nz) A (fun i hi => by
   have := (A.ids_lt i hi).2
   exact (jaB (by omega)).trans (Heap.get_reserve _ _ _)) ⟨by omega, by simp only [Heap.size_put, Heap.size_reserve]; omega⟩ (by omega)
  have gN28' := fun b => (jaB (h := h'.reserve 30) (b := b) (i := h'.size + 27) (j := h'.size + 28) (by omega)).trans ((Heap.get_reserve _ _ _).trans gN28)
  refine zs11 @e12 @e15 @g @q6 @gN27 @jby @jol @ap @ji9 @gN28 @gN28' ?_
  have sn := fun b => Grw.snocS (k := h'.size + 28) (m := 1) (news := [.int .i64 (z.getD k 0 % (2 * p.nz + 1) - p.nz), .int .i64 ((z.getD k 0).tdiv 7 % (2 * p.nz + 1) - p.nz)]) (H := (h'.reserve 30).put (h'.size + 27) b) A ⟨by simp only [Heap.size_put, Heap.size_reserve]; omega, fun i hi => (jaB (by omega)).trans (Heap.get_reserve _ _ _)⟩ ⟨by omega, by simp only [Heap.size_put, Heap.size_reserve]; omega⟩ rfl (by omega)
  refine ⟨_, ⟨k + 1, ?_, e3, e4, e11, e13, by omega, by omega, rfl⟩, by omega⟩
  rw [joZ hk']
  have eq : smps (humL (z.take k) p.nz) ++ [.int .i64 (z.getD k 0 % (2 * p.nz + 1) - p.nz), .int .i64 ((z.getD k 0).tdiv 7 % (2 * p.nz + 1) - p.nz)] = smps (humL (z.take k) p.nz ++ [(z.getD k 0 % (2 * p.nz + 1) - p.nz, (z.getD k 0).tdiv 7 % (2 * p.nz + 1) - p.nz)]) := by simp [smps]
  simp only [eq] at sn
  unfold GrwS
  rw [List.length_append]
  exact sn _
 ·obtain rfl : k = z.length := by omega
  refine zs ?_
  refine hgood _ _ e4 e11 e12 e13 A.sub ?_
  have := A.si
  rw [List.take_length] at this
  exact this
end
end Go.Ae
namespace Go.Ae
theorem EmsI.atF {h : Heap} {v : AV} {es : List EmitP} (H : EmsI h v es) {i : Nat} (hi : i < es.length) : ∃ vb, idxA 8 v (.int .i64 (i : Nat)) = some (elA 8 v i) ∧
  (∀ h', HSub h h' → Ae.loadA h' true 8 (elA 8 v i) = some (emA (es.getD i eD) vb)) ∧ RI h vb (es.getD i eD).bits ∧ jbF 5 (elA 8 v i) = some (elF 8 v i 5) ∧
  (∀ h', HSub h h' → Ae.loadA h' false 1 (elF 8 v i 5) = some (.int .i64 (es.getD i eD).amp)) := by
 obtain ⟨L, rfl, b, c⟩ := H
 rw [List.length_map] at hi
 have e : (L.map (·.1)).getD i eD = L[i].1 := by simp [List.getD_eq_getElem?_getD, hi]
 rw [e]
 refine ⟨L[i].2, b.idx ⟨by omega, by omega⟩, fun h' hs => ?_, c _ (List.getElem_mem hi), b.fldE i 5 hi, fun h' hs => ?_⟩
 ·rw [(b.mono hs).loadA hi, jkz hi]; rfl
 ·rw [(b.mono hs).loadE hi (by decide), jkA hi (by decide)]; rfl
section
variable {C : Ctx}
set_option maxHeartbeats 4000000 in
set_option maxRecDepth 20000 in
theorem jo3 (hC : Has C T214) {p : PlanP} {es : List EmitP} {ns : List (Int × Int)} {M c : Nat} {vp ve : AV} {H : Heap} {t : Nat → AV} (e4 : t 4 = .int .i64 (M : Nat)) (e11 : t 11 = .bool true) (e12 : t 12 = .ptr c 0) (e13 : t 13 = ve)
  (hc : H.get c = some (.cells [.int .i64 p.d, .int .i64 p.o, .int .i64 p.pb, .int .i64 p.w, .int .i64 p.mn, .int .i64 p.mx, .int .i64 p.nz, vp] true 0)) (R : RI H vp p.prns) (E : EmsI H ve es) {vn : AV} (e14 : t 14 = vn) (N : SI H vn ns) (p64 : p.ok64) (pn : p.numsOk) (hz : jbo p es ns (M : Nat) = 0) (ok : ∀ e ∈ es, emitErr p e = 0 ∧ e.ok64) (n8 : es.length ≤ 2) (nin : ∀ x ∈ ns, inS p.nz x) (hM : M ≤ 120) :
  wp C.main0 221 none (seqR (seqR (seqR (seqR (seqR (seqR (seqR (seqR (seqR B214.code))))))))) (retO B214.res (fun r _ => r = .bool true)) ⟨t, H, []⟩ := by
 have hM0 : Has C.main0 T214 := hC.main0
 have okk : ∀ k, k < es.length → emitErr p (es.getD k eD) = 0 ∧ (es.getD k eD).ok64 := fun k hk => by
  have : es.getD k eD ∈ es := by rw [List.getD_eq_getElem?_getD, List.getElem?_eq_getElem hk]; exact List.getElem_mem hk
  exact ok _ this
 have v1 := R.one
 have w1 := E.one
 have n1 := N.one
 have El := E.len
 have Nl := N.len
 have kP := fun h1 (q : HSub H h1) => jmC (zu hC T231) (m := (M : Nat)) (R.mono q) p64 (E.mono q) (fun k hk => (okk k hk).2) (N.mono q) (by unfold In64; omega)
 simp only [hz, if_pos, Int.toNat_natCast] at kP
 have kA := fun e (he : emitErr p e = 0) (h64 : e.ok64) (n : Nat) (hn : n < M) h1 v w (hp : PlI h1 v p) (hq : EmI h1 w e) => jkv (hM0.sub (T' := T229) (by decide)) (n := (n : Nat)) hp hq p64 h64 (by unfold In64; omega)
 have eA : ∀ e, emitErr p e = 0 → ∀ n : Nat, n < M → atE p e (n : Nat) = .tuple [smp (atV p e (n : Nat)), .int .i64 0] := fun e he n hn => by unfold atE; rw [if_pos (joW he (by omega))]
 simp only [seqL, seqR, B214, zB.1]
 have q8 : loadB true 8 0 (some (.cells [.int .i64 p.d, .int .i64 p.o, .int .i64 p.pb, .int .i64 p.w, .int .i64 p.mn, .int .i64 p.mx, .int .i64 p.nz, vp] true 0)) = some (.agg [.int .i64 p.d, .int .i64 p.o, .int .i64 p.pb, .int .i64 p.w, .int .i64 p.mn, .int .i64 p.mx, .int .i64 p.nz, vp]) := rfl
 refine zs6 @e4 @e12 @e13 @e14 @hc @q8 ?_
 refine jaa.of (kP _ (HSub.refl _)) ?_
 rintro r H1 ⟨w, rfl, s1, S, fw⟩
 have gp := (s1.get _ (Heap.lt_of_get hc)).trans hc
 have cl := Heap.lt_of_get gp
 have R1 := R.mono s1
 have E1 := E.mono s1
 have N1 := N.mono s1
 have Sl := S.len
 have S1 := S.one
 rw [jdt] at Sl
 refine zs5 @ja2.eq_1 @e4 @e11 @Sl @gV_u ?_
 refine jaA (fun j t h' => HSub H1 h' ∧ t 4 = .int .i64 (M : Nat) ∧ t 11 = .bool true ∧ t 12 = .ptr c 0 ∧ t 13 = ve ∧ t 14 = vn ∧ t 16 = w ∧ ∃ n : Nat, t 18 = .int .i64 (n : Nat) ∧ n ≤ M ∧ j = M - n) (j0 := M)
  ⟨HSub.refl _, e4, e11, e12, e13, e14, rfl, 0, rfl, by omega, rfl⟩ ?_
 rintro j t h' ⟨hs, e4, e11, e12, e13, e14, e16, n, e18, hn, hj⟩
 refine zs2 @e4 @e18 ?_
 refine Br.by (fun cn => ?_) (fun cn => ?_)
 ·have hn' : n < M := by omega
  have Nl1 := (N1.mono hs).len
  refine zs3 @e14 @e18 @Nl1 ?_
  refine Br.by (fun cm => ?ga) (fun cm => ?gb)
  case' ga =>
   have ix := N1.idx (kk := .i64) (k := ((n : Nat) : Int)) ⟨by omega, by omega⟩
   rw [Int.toNat_natCast] at ix
   have ld := fun H' (q : HSub H1 H') => (N1.mono q).loadA (k := n) (by omega)
   unfold smp at ld
   refine zs5 @e14 @e18 @ix @ld @hs ?_
   have z0 : h'.push (.cells [.int .i64 (ns.getD n (0, 0)).1, .int .i64 (ns.getD n (0, 0)).2] true 0) = h'.push (.cells [.int .i64 (scnV p es ns 0 n).1, .int .i64 (scnV p es ns 0 n).2] true 0) := rfl
   generalize h'.push (.cells [.int .i64 (ns.getD n (0, 0)).1, .int .i64 (ns.getD n (0, 0)).2] true 0) = h2 at *
  case' gb =>
   have ez : ns.getD n (0, 0) = (0, 0) := by rw [List.getD_eq_getElem?_getD, List.getElem?_eq_none (by omega)]; rfl
   refine zs ?_
   have z0 : h'.push (.cells [.int .i64 0, .int .i64 0] true 0) = h'.push (.cells [.int .i64 (scnV p es ns 0 n).1, .int .i64 (scnV p es ns 0 n).2] true 0) := by
    show _ = h'.push (.cells [.int .i64 (ns.getD n (0, 0)).1, .int .i64 (ns.getD n (0, 0)).2] true 0)
    rw [ez]
   generalize h'.push (.cells [.int .i64 0, .int .i64 0] true 0) = h2 at *
  all_goals
   subst z0
   refine jaA (fun j t h2 => HSub H1 h2 ∧ t 4 = .int .i64 (M : Nat) ∧ t 11 = .bool true ∧ t 12 = .ptr c 0 ∧ t 13 = ve ∧ t 14 = vn ∧ t 16 = w ∧ t 18 = .int .i64 (n : Nat) ∧ t 19 = .ptr h'.size 0 ∧
    ∃ i : Nat, t 20 = .int .i64 (i : Nat) ∧ i ≤ es.length ∧ j = es.length - i ∧ h2.get h'.size = some (.cells [.int .i64 (scnV p es ns i n).1, .int .i64 (scnV p es ns i n).2] true 0)) (j0 := es.length)
    ⟨hs.push _, e4, e11, e12, e13, e14, e16, e18, rfl, 0, rfl, by omega, rfl, jaz rfl⟩ ?_
   have hs1 := hs.size
   clear hs e4 e11 e12 e13 e14 e16 e18
   rintro j2 t h2 ⟨hs, e4, e11, e12, e13, e14, e16, e18, e19, i, e20, hi, hj2, gsl⟩
   simp -implicitDefEqProofs (disch := first | exact zd | fail) only [↓wpPre, jbb, jbc, Int.reduceToNat, Int.reducePow, Int.reduceMul, Int.reduceAdd, Int.reduceSub, Int.reduceNeg, Nat.reduceAdd, Nat.reduceMul, Nat.reducePow, Int.reduceLT, Int.reduceLE, Int.reduceEq, Nat.reduceEqDiff, e20, e13, (E1.mono hs).len]
   refine Br.by (fun ci => ?_) (fun ci => ?_)
   ·have hi' : i < es.length := by omega
    obtain ⟨vb, ix, ldE, B, fa, ldF⟩ := (E1.mono hs).atF hi'
    obtain ⟨he, h64⟩ := okk i hi'
    have kA1 := kA _ he h64 n hn'
    have kA2 := kA _ (jkK he) (jsG p64 h64) n hn'
    simp only [eA _ he n hn'] at kA1
    simp only [eA _ (jkK he) n hn'] at kA2
    have mu := jr8 (p := p) (e := es.getD i eD) (n := (n : Nat))
    have in1 := jjo (jel he) (n : Nat)
    have in2 := jjo (jel (jkK he)) (n : Nat)
    have sV : scnV p es ns (i + 1) n = addP (scnV p es ns i n) (atV p (es.getD i eD) (n : Nat)) := rfl
    have inx := jik pn nin i n (fun k hk => jel (okk k (by omega)).1)
    have am := (jel he).en.2.2.1
    have pm := pn.2.2.2.2
    generalize es.getD i eD = q at *
    generalize atV p q (n : Nat) = x at *
    generalize atV p (quE p q) (n : Nat) = y at *
    generalize scnV p es ns i n = u at *
    obtain ⟨x1, x2⟩ := x
    obtain ⟨y1, y2⟩ := y
    obtain ⟨u1, u2⟩ := u
    simp only [smp] at kA1 kA2
    unfold inS at in1 in2 inx
    dsimp only at mu in1 in2 inx
    have b1 := mul1k (x := x1) (a := p.mn) (by omega) (by omega)
    have b2 := mul1k (x := x2) (a := p.mn) (by omega) (by omega)
    have b3 := mul1k (x := y1) (a := q.amp) (by omega) (by omega)
    have b4 := mul1k (x := y2) (a := q.amp) (by omega) (by omega)
    dsimp only [addP] at sV
    have gc := (hs.get _ cl).trans gp
    have R2 := R1.mono hs
    have PP : ∀ H, HSub h2 H → PlI H (.agg [.int .i64 p.d, .int .i64 p.o, .int .i64 p.pb, .int .i64 p.w, .int .i64 p.mn, .int .i64 p.mx, .int .i64 p.nz, vp]) p := fun H q => ⟨vp, rfl, R2.mono q⟩
    have EE : ∀ H, HSub h2 H → EmI H (.agg [.int .i64 q.prn, .int .i64 q.dl, .int .i64 q.rt, .int .u32 q.st, .int .u32 q.ph, .int .i64 q.amp, .int .i64 q.ba, vb]) q := fun H k => ⟨vb, rfl, B.mono k⟩
    have EQ : ∀ H, HSub h2 H → EmI H (.agg [.int .i64 q.prn, .int .i64 q.dl, .int .i64 q.rt, .int .u32 q.st, .int .u32 q.ph, .int .i64 p.mn, .int .i64 q.ba, vb]) (quE p q) := fun H k => ⟨vb, rfl, B.mono k⟩
    have z1 := fun H (k : HSub h2 H) => kA1 H _ _ (PP H k) (EE H k)
    have z2 := fun H (k : HSub h2 H) => kA2 H _ _ (PP H k) (EQ H k)
    have qe : ∀ {a b c d e f g h : AV} {u : Nat} {w : Bool}, loadB true 8 0 (some (.cells [a, b, c, d, e, f, g, h] w u)) = some (.agg [a, b, c, d, e, f, g, h]) := rfl
    have b0 := B.one
    unfold emA at ldE
    refine zs8 @e12 @e13 @e18 @e20 @ix @ldE @gc @qe ?_
    refine jaa.eq (z1 _ (zh (HSub.refl h2))) ?_
    have gN10 : h2.get (h2.size + 10) = none := h2.wf _ (by omega)
    have q4 : ([.int .i64 p.d, .int .i64 p.o, .int .i64 p.pb, .int .i64 p.w, .int .i64 p.mn, .int .i64 p.mx, .int .i64 p.nz, vp] : List AV)[4]? = some (.int .i64 p.mn) := rfl
    have c2 : c < h2.size := Nat.lt_of_lt_of_le cl hs.size
    have c3 : h'.size < h2.size := Heap.lt_of_get gsl
    have s10 := fun b => ((HSub.refl h2).reserve 13).put (i := h2.size + 10) (by omega) b
    have ldE2 := fun b => ldE _ (s10 b)
    have ldF2 := fun b b1 b2 => ldF _ (((s10 b).push b1).push b2)
    obtain ⟨m1, m2⟩ := mu
    refine zs10 @e12 @e13 @e18 @e20 @ix @ldE2 @gc @q4 @qe @gN10 ?_
    refine jaa.eq (z2 _ (zh (HSub.refl h2))) ?_
    simp -implicitDefEqProofs (disch := first | exact zd | fail) only [↓wpPre, jbb, jbc, Int.reduceToNat, Int.reducePow, Int.reduceMul, Int.reduceAdd, Int.reduceSub, Int.reduceNeg, Nat.reduceAdd, Nat.reduceMul, Nat.reducePow, Int.reduceLT, Int.reduceLE, Int.reduceEq, Nat.reduceEqDiff, e12, e13, e18, e20, ix, ldE2, ldF2, fa, gc, q4, qe, gN10, gsl, gV_u, m1, m2, e19]
    exact ⟨_, ⟨((((hs.reserve 13).put (by have := hs.size; omega) _).put (by omega) _).push _).push _, e4, e11, e14, e16, i + 1, by omega, by omega, rfl, by rw [sV]⟩, by omega⟩
   ·obtain rfl : i = es.length := by omega
    have iw := S.idx (kk := .i64) (k := ((n : Nat) : Int)) ⟨by omega, by rw [jdt]; omega⟩
    rw [Int.toNat_natCast] at iw
    have lw := fun H' (q : HSub H1 H') => (S.mono q).loadA (k := n) (by rw [jdt]; omega)
    have ew : (scnL p es ns es.length M).getD n (0, 0) = scnV p es ns es.length n := by simp [scnL, List.getD_eq_getElem?_getD, hn']
    rw [ew] at lw
    unfold smp at lw
    refine zs8 @e16 @e18 @e19 @gsl @iw @lw @jom @gV_u ?_
    exact ⟨_, ⟨hs, e4, e11, e12, e13, e14, n + 1, by omega, by omega, rfl⟩, by omega⟩
 ·exact ze1 @e11
set_option maxHeartbeats 4000000 in
set_option maxRecDepth 20000 in
theorem SignalAdds_law (hC : Has C T214) {vl vm vo vz : AV} {l m o z : List Int} {n0 : Int} {h : Heap} (hl : RI h vl l) (hm : RI h vm m) (ho : RI h vo o) (hz : RI h vz z) (hn0 : In64 n0) (hx : ∀ x ∈ l, In64 x) (hy : ∀ x ∈ m, In64 x) (hw : ∀ x ∈ o, In64 x) (hv : ∀ x ∈ z, In64 x) :
  ACalls C.main0 214 [vl, vm, vo, vz, .int .i64 n0] h (fun r _ => r = .bool true) := by
 have hM : Has C.main0 T214 := hC.main0
 have hlt := hl.lt
 have hmt := hm.lt
 have hot := ho.lt
 have hzt := hz.lt
 have kn := fun h => jeQ (hM.sub (T' := T212) (by decide)) (h := h)
 by_cases c0 : 20 < l.length ∨ 20 < m.length ∨ 20 < o.length ∨ 120 < z.length
 ·refine jcB (hM.body (by decide) tab214) (Nat.le_of_ble_eq_true rfl) ?_
  show wp C.main0 _ none B214.code _ _
  simp only [B214, zB.1]
  refine zs ?_
  refine jaa.eq (kn _) ?_
  (repeat' (first | (refine Br.by (fun _ => ?_) (fun _ => ?_)) | ((refine zs5 @hl.len @hm.len @ho.len @hz.len @gV_u ?_; try with_reducible trivial))))
  all_goals (exfalso; omega)
 have L1 : l.length ≤ 20 := by omega
 have L2 : m.length ≤ 20 := by omega
 have L3 : o.length ≤ 20 := by omega
 have L4 : z.length ≤ 120 := by omega
 clear c0
 have k0 : 0 ≤ n0 % (121 - (z.length : Int)) := Int.emod_nonneg _ (by omega)
 have k1 := Int.emod_lt_of_pos n0 (show 0 < 121 - (z.length : Int) by omega)
 obtain ⟨k, ek⟩ := Int.eq_ofNat_of_zero_le k0
 have pn := jem l
 have pz := jhu l
 have p64 := jjy l
 have pl0 : 0 < (planOf l).prns.length := by
  have h7 := jag (l := l) (i := 7) (n := 3) (by omega)
  show 0 < (prnK _ _).length
  rw [jdu]; omega
 have nd := (jjA pz).nodup
 have nzr := pn.2.2.2.2.2.2
 refine jcB (hM.body (by decide) tab214) (Nat.le_of_ble_eq_true rfl) ?_
 refine jmG hM hl hm ho hz hn0 hx hy hw L1 L2 L3 L4 ek (by omega) (fun t H vp e3 e4 e11 e12 hs R E => ?_)
 obtain ⟨c, e12, hc, gc⟩ := e12
 refine jqy hM (hz.mono hs) hv ⟨nzr.1, nzr.2⟩ L4 gc e3 e4 e11 e12 rfl (fun t' H' e4 e11 e12 e13 hs' N => ?_)
 have e4 : t' 4 = .int .i64 ((z.length + k : Nat) : Int) := e4
 refine jo3 hC e4 e11 e12 e13 ((hs'.get _ (Heap.lt_of_get gc)).trans gc) (R.mono hs') (E.mono hs') rfl N p64 pn ?_ (fun e he => jo2 pz pn p64 pl0 e he) jlo.2 (jo1 nzr.1) (by omega)
 exact jqx pz pn p64 nd pl0 ⟨by rw [jgC]; omega, by omega⟩ (jo1 nzr.1)
end
end Go.Ae
