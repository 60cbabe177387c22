/- Texts of the proof, part 11: a second reading of the lowered code, proved sound, and what the functions compute. -/
import Derived.Sort.Row
import Derived.Sort.Grow
import Derived.Test.YtdcellihijlekaaV10

/- Go's sort of a list of numbers, as the library's contract tells it. -/
set_option linter.unusedSimpArgs false
set_option linter.unusedVariables false
namespace Go.Ae
open Go.Sort
def sortL (l : List Int) : List Int := l.mergeSort fun x y => decide (x ≤ y)
def SortOk (C : Ctx) (g : Nat) : Prop := Enters C.P (C.lk g) ∧ ∀ (blk off cap : Nat) (zs : List Int) (w : World), Holds (Value.int .i64) w blk off zs.toArray → blk < w.heap.size → zs.length < 4611686018427387904 →
  Calls C.P (C.lk g) #[.slice (some ⟨blk, off, none⟩) zs.length cap] w fun e w' => e = .returned (.tuple #[]) ∧ ∃ n os, w' = grow (putRow (Value.int .i64) (Go.Sort.ahead w n) blk off (zs.mergeSort fun x y => decide (x ≤ y)).toArray) os
theorem sortA_spec {C : Ctx} {g : Nat} (hS : SortOk C g) {i u : Nat} {c : Cap} {l : List Int} {h : Heap} (hg : h.get i = some (.cells (ints l) true u)) (hn : l.length < 4611686018427387904) :
    ACalls C g [.slice i 0 l.length c] h (fun r h' => r = .tuple [] ∧ h' = h.put i (.cells (ints (sortL l)) true u)) := by
  refine ⟨hS.1, fun keep env w R hb => ?_⟩
  obtain ⟨cur, t, hrow, hcs, hu⟩ := R.blk i _ hg
  have hlt := R.lt i _ hg
  have hsl : (sortL l).length = l.length := List.length_mergeSort l
  have hH : Holds (Value.int .i64) w (env i).blk ((env i).sh + 0) l.toArray := by
    intro j hj
    have hj' : j < l.length := by simpa using hj
    have hc := hcs j _ (ints_get hj')
    refine ⟨?_, ?_⟩
    · simp only [World.cell?, hrow, Option.isSome_none, Bool.false_eq_true, if_false, Nat.add_zero]
      rw [hc]
      simp [AV.val, hj']
    · simp [World.frozen?, hrow]
  have hcall := hS.2 (env i).blk ((env i).sh + 0) (c.at (env i)) l w hH hlt hn
  refine Calls.mono hcall ?_
  rintro e w' ⟨rfl, n, os, rfl⟩
  have hmod : (putRow (Value.int .i64) (Go.Sort.ahead w n) (env i).blk ((env i).sh + 0) (sortL l).toArray).heap[(env i).blk]? = some (.cells (putCells (Value.int .i64) ((env i).sh + 0) (sortL l).toArray cur) t (0, 0)) := by
    simp [putRow, mapBlock, Go.Sort.ahead, Array.getElem?_modify, hrow, onCells]
  have W := R.write (w' := putRow (Value.int .i64) (Go.Sort.ahead w n) (env i).blk ((env i).sh + 0) (sortL l).toArray) (b' := .cells (ints (sortL l)) true u) hg rfl rfl rfl rfl (by simp [putRow, mapBlock, Go.Sort.ahead])
    (fun r hr => by simp [putRow, mapBlock, Go.Sort.ahead, Array.getElem?_modify, Ne.symm hr]) (fun v hv => by obtain ⟨x, _, rfl⟩ := List.mem_map.1 hv; trivial)
    ⟨_, t, hmod, fun k v hk => by
      simp only [ints, List.getElem?_map, Option.map_eq_some_iff] at hk
      obtain ⟨x, hx, rfl⟩ := hk
      obtain ⟨hk', hx'⟩ := List.getElem?_eq_some_iff.1 hx
      have hcur : (env i).sh + k < cur.size := by
        have := hcs k _ (ints_get (by omega))
        exact (Array.getElem?_eq_some_iff.1 this).1
      simp only [putCells, Array.getElem?_mapIdx]
      rw [Array.getElem?_eq_getElem hcur]
      simp [AV.val, hk', hx'], fun h0 => by
      have := hu h0
      simp only [putCells, Array.size_mapIdx]
      rw [ints_length] at this ⊢
      omega⟩
  obtain ⟨R1, K1⟩ := W
  have R2 := rel_same R1 (w' := grow (putRow (Value.int .i64) (Go.Sort.ahead w n) (env i).blk ((env i).sh + 0) (sortL l).toArray) os) (by simp [grow]) (fun r hr => by
    exact Array.getElem?_append_left hr)
  refine ⟨env, .tuple [], _, rfl, ⟨rfl, rfl⟩, R2, ⟨K1.os, K1.tape, K1.output, Nat.le_trans K1.size (by simp [grow]), fun r hr => ?_⟩, Ext.refl _ _, hle_put hg, trivial⟩
  have hlr := R.keepLt r hr
  have := K1.block r hr
  rw [← this]
  have hlr' : r < (putRow (Value.int .i64) (Go.Sort.ahead w n) (env i).blk ((env i).sh + 0) (sortL l).toArray).heap.size := by simpa [putRow, mapBlock, Go.Sort.ahead] using hlr
  exact Array.getElem?_append_left hlr' 
theorem enters_of_body {C : Ctx} {g : Nat} {b : ABody} (hbody : C.body g = some b) : Enters C.P (C.lk g) := by
  unfold Ctx.body lowerFn at hbody
  split at hbody
  · rename_i fn hf
    split at hbody
    · cases hbody
    · rename_i hname
      split at hbody
      · rename_i c rs hc hrs
        cases hbody
        intro args w
        simp [callFunc, hf, hname, hc, mark]
      · cases hbody
  · cases hbody
end Go.Ae

/- What functions of Go's slices package give on lists of numbers. -/
set_option linter.unusedSimpArgs false
set_option linter.unusedVariables false
namespace Go.Ae

def Fresh (h h' : Heap) (v : AV) (l : List Int) : Prop :=
  HSub h h' ∧ l.length < 9223372036854775808 ∧ ∃ i, h.size ≤ i ∧ v = .slice i 0 l.length (.known l.length) ∧ h'.get i = some (.cells (ints l) true 0)
theorem Fresh.ri {h h' : Heap} {v : AV} {l : List Int} (H : Fresh h h' v l) : RI h' v l := by
  obtain ⟨hs, hl, i, hi, rfl, hg⟩ := H
  exact RI.known hg ⟨rfl, hl⟩ (Nat.le_refl _)
theorem Fresh.sub {h h' : Heap} {v : AV} {l : List Int} (H : Fresh h h' v l) : HSub h h' := H.1
theorem Fresh.mono {h0 h h' : Heap} {v : AV} {l : List Int} (H : Fresh h h' v l) (hs : HSub h0 h) : Fresh h0 h' v l := by
  obtain ⟨hs', hl, i, hi, r⟩ := H
  exact ⟨hs.trans hs', hl, i, Nat.le_trans hs.size hi, r⟩

def mapPre (f : Int → Int) (l : List Int) (i : Nat) : List Int := (l.take i).map f ++ l.drop i
theorem mapPre_zero (f : Int → Int) (l : List Int) : mapPre f l 0 = l := by simp [mapPre]
theorem mapPre_full (f : Int → Int) (l : List Int) : mapPre f l l.length = l.map f := by simp [mapPre]
theorem mapPre_length (f : Int → Int) (l : List Int) (i : Nat) : (mapPre f l i).length = l.length := by simp [mapPre]; omega
theorem mapPre_get (f : Int → Int) {l : List Int} {i : Nat} (h : i < l.length) : (mapPre f l i).getD i 0 = l.getD i 0 := by
  simp only [mapPre, List.getD_eq_getElem?_getD]
  rw [List.getElem?_append_right (by simp; omega)]
  simp [Nat.min_eq_left (Nat.le_of_lt h)]
theorem mapPre_set (f : Int → Int) {l : List Int} {i : Nat} (h : i < l.length) : (mapPre f l i).set i (f (l.getD i 0)) = mapPre f l (i + 1) := by
  unfold mapPre
  have hl : ((l.take i).map f).length = i := by simp; omega
  rw [List.set_append_right _ _ (by omega), hl, Nat.sub_self, take_succ_getD h, List.map_append, List.append_assoc]
  congr 1
  have : l.drop i = l.getD i 0 :: l.drop (i + 1) := by
    rw [List.drop_eq_getElem_cons h]; simp [h]
  rw [this]; rfl

section
variable {C : Ctx}

def Asks (C : Ctx) (f : AV) (p : Int → Bool) (l : List Int) (h : Heap) : Prop :=
  ∃ g c, f = .func g [] c ∧ ∀ x ∈ l, ACalls C g ([] ++ [.int .i64 x] ++ c) h (fun r h' => r = .bool (p x) ∧ h' = h)

def idxI (p : Int → Bool) (l : List Int) : Int := if l.any p then l.findIdx p else -1

theorem any_take_succ {p : Int → Bool} {l : List Int} {i : Nat} (hi : i < l.length) (h : (l.take i).any p = false) (hp : p (l.getD i 0) = false) : (l.take (i + 1)).any p = false := by
  rw [take_succ_getD hi, List.any_append, h]; simpa using hp
theorem findIdx_of {p : Int → Bool} {l : List Int} {i : Nat} (hi : i < l.length) (h : (l.take i).any p = false) (hp : p (l.getD i 0) = true) : l.any p = true ∧ l.findIdx p = i := by
  have e : l.getD i 0 = l[i] := by simp [hi]
  refine ⟨List.any_eq_true.2 ⟨l.getD i 0, getD_mem hi, hp⟩, ?_⟩
  rw [List.findIdx_eq hi]
  refine ⟨by rw [← e]; exact hp, fun j hj => ?_⟩
  have := List.any_eq_false.1 h (l[j]) (by rw [List.mem_take_iff_getElem]; exact ⟨j, by omega, rfl⟩)
  simpa using this

theorem IndexFunc_spec (hC : Has C T50) {v f : AV} {l : List Int} {p : Int → Bool} {h : Heap} (hl : RI h v l) (hf : Asks C f p l h) : ACalls C 50 [v, f] h (fun r h' => r = .int .i64 (idxI p l) ∧ h' = h) := by
  obtain ⟨g, c, rfl, hf⟩ := hf
  have hlt := hl.lt
  (refine calls_intro (hC.body (by decide) tab50) (Nat.le_of_ble_eq_true rfl) ?_); (show wp C _ none B50.code _ _); (simp only [B50]); simp -implicitDefEqProofs (disch := first | assumption | decide | omega | (simp only [wpD1] <;> omega) | (simp only [wpD2] <;> assumption) | solve_by_elim [HSub.refl, HSub.push, HSub.reserve] | fail) only [↓wpPre, wpPost, wpPoly, Int.reduceToNat, Int.reducePow, Int.reduceMul, Int.reduceAdd, Int.reduceSub, Int.reduceNeg, Nat.reduceAdd, Nat.reduceMul, Nat.reducePow, Int.reduceLT, Int.reduceLE, Int.reduceEq, Nat.reduceEqDiff, hl.len]
  refine wp_loopI (fun j t h' => h' = h ∧ t 0 = v ∧ t 1 = .func g [] c ∧ t 7 = .int .i64 l.length ∧ ∃ i : Nat, t 8 = .int .i64 (i : Nat) ∧ i ≤ l.length ∧ (l.take i).any p = false ∧ j = l.length - i) ⟨rfl, rfl, rfl, rfl, 0, rfl, by omega, by simp, rfl⟩ ?_
  rintro j t h' ⟨rfl, e0, e1, e7, i, e8, hi, hp, hj⟩
  simp -implicitDefEqProofs (disch := first | assumption | decide | omega | (simp only [wpD1] <;> omega) | (simp only [wpD2] <;> assumption) | solve_by_elim [HSub.refl, HSub.push, HSub.reserve] | fail) only [↓wpPre, wpPost, wpPoly, Int.reduceToNat, Int.reducePow, Int.reduceMul, Int.reduceAdd, Int.reduceSub, Int.reduceNeg, Nat.reduceAdd, Nat.reduceMul, Nat.reducePow, Int.reduceLT, Int.reduceLE, Int.reduceEq, Nat.reduceEqDiff, e0, e1, e7, e8]
  refine Br.by (fun c1 => ?_) (fun c1 => ?_)
  · have hi' : i < l.length := by omega
    simp -implicitDefEqProofs (disch := first | assumption | decide | omega | (simp only [wpD1] <;> omega) | (simp only [wpD2] <;> assumption) | solve_by_elim [HSub.refl, HSub.push, HSub.reserve] | fail) only [↓wpPre, wpPost, wpPoly, Int.reduceToNat, Int.reducePow, Int.reduceMul, Int.reduceAdd, Int.reduceSub, Int.reduceNeg, Nat.reduceAdd, Nat.reduceMul, Nat.reducePow, Int.reduceLT, Int.reduceLE, Int.reduceEq, Nat.reduceEqDiff, e0, e1, e7, e8, hl.idx, hl.load]
    refine ACallsK.eq (hf _ (getD_mem hi')) ?_
    simp -implicitDefEqProofs (disch := first | assumption | decide | omega | (simp only [wpD1] <;> omega) | (simp only [wpD2] <;> assumption) | solve_by_elim [HSub.refl, HSub.push, HSub.reserve] | fail) only [↓wpPre, wpPost, wpPoly, Int.reduceToNat, Int.reducePow, Int.reduceMul, Int.reduceAdd, Int.reduceSub, Int.reduceNeg, Nat.reduceAdd, Nat.reduceMul, Nat.reducePow, Int.reduceLT, Int.reduceLE, Int.reduceEq, Nat.reduceEqDiff]
    refine Br.by (fun c2 => ?_) (fun c2 => ?_)
    · have := findIdx_of hi' hp c2
      simp -implicitDefEqProofs (disch := first | assumption | decide | omega | (simp only [wpD1] <;> omega) | (simp only [wpD2] <;> assumption) | solve_by_elim [HSub.refl, HSub.push, HSub.reserve] | fail) only [↓wpPre, wpPost, wpPoly, Int.reduceToNat, Int.reducePow, Int.reduceMul, Int.reduceAdd, Int.reduceSub, Int.reduceNeg, Nat.reduceAdd, Nat.reduceMul, Nat.reducePow, Int.reduceLT, Int.reduceLE, Int.reduceEq, Nat.reduceEqDiff, idxI, if_pos this.1, this.2]
    · simp -implicitDefEqProofs (disch := first | assumption | decide | omega | (simp only [wpD1] <;> omega) | (simp only [wpD2] <;> assumption) | solve_by_elim [HSub.refl, HSub.push, HSub.reserve] | fail) only [↓wpPre, wpPost, wpPoly, Int.reduceToNat, Int.reducePow, Int.reduceMul, Int.reduceAdd, Int.reduceSub, Int.reduceNeg, Nat.reduceAdd, Nat.reduceMul, Nat.reducePow, Int.reduceLT, Int.reduceLE, Int.reduceEq, Nat.reduceEqDiff, e0, e1, e7, e8]
      exact ⟨_, ⟨i + 1, by simp, by omega, any_take_succ hi' hp (by simpa using c2), rfl⟩, by omega⟩
  · have : i = l.length := by omega
    subst this
    rw [List.take_of_length_le (Nat.le_refl _)] at hp
    simp -implicitDefEqProofs (disch := first | assumption | decide | omega | (simp only [wpD1] <;> omega) | (simp only [wpD2] <;> assumption) | solve_by_elim [HSub.refl, HSub.push, HSub.reserve] | fail) only [↓wpPre, wpPost, wpPoly, Int.reduceToNat, Int.reducePow, Int.reduceMul, Int.reduceAdd, Int.reduceSub, Int.reduceNeg, Nat.reduceAdd, Nat.reduceMul, Nat.reducePow, Int.reduceLT, Int.reduceLE, Int.reduceEq, Nat.reduceEqDiff, idxI, hp]
    simp

theorem idxI_nonneg {p : Int → Bool} {l : List Int} : 0 ≤ idxI p l ↔ l.any p = true := by
  unfold idxI
  split
  · rename_i h; simp [h]
  · rename_i h; simp [h]

theorem ContainsFunc_spec (hC : Has C T37) {v f : AV} {l : List Int} {p : Int → Bool} {h : Heap} (hl : RI h v l) (hf : Asks C f p l h) : ACalls C 37 [v, f] h (fun r h' => r = .bool (l.any p) ∧ h' = h) := by
  (refine calls_intro (hC.body (by decide) tab37) (Nat.le_of_ble_eq_true rfl) ?_); (show wp C _ none B37.code _ _); (simp only [B37]); simp -implicitDefEqProofs (disch := first | assumption | decide | omega | (simp only [wpD1] <;> omega) | (simp only [wpD2] <;> assumption) | solve_by_elim [HSub.refl, HSub.push, HSub.reserve] | fail) only [↓wpPre, wpPost, wpPoly, Int.reduceToNat, Int.reducePow, Int.reduceMul, Int.reduceAdd, Int.reduceSub, Int.reduceNeg, Nat.reduceAdd, Nat.reduceMul, Nat.reducePow, Int.reduceLT, Int.reduceLE, Int.reduceEq, Nat.reduceEqDiff]
  refine ACallsK.eq (IndexFunc_spec (hC.sub (T' := T50) (by decide)) hl hf) ?_
  simp -implicitDefEqProofs (disch := first | assumption | decide | omega | (simp only [wpD1] <;> omega) | (simp only [wpD2] <;> assumption) | solve_by_elim [HSub.refl, HSub.push, HSub.reserve] | fail) only [↓wpPre, wpPost, wpPoly, Int.reduceToNat, Int.reducePow, Int.reduceMul, Int.reduceAdd, Int.reduceSub, Int.reduceNeg, Nat.reduceAdd, Nat.reduceMul, Nat.reducePow, Int.reduceLT, Int.reduceLE, Int.reduceEq, Nat.reduceEqDiff]
  cases hx : l.any p with
  | true => simp [idxI_nonneg, hx]
  | false => simp [idxI_nonneg, hx]
end
end Go.Ae

/- Lists that grow by append, one's own. -/
set_option linter.unusedSimpArgs false
set_option linter.unusedVariables false
namespace Go.Ae

theorem seqx {a b : List Int} (hl : a.length = b.length) (h : ∀ i, i < a.length → a.getD i 0 = b.getD i 0) : a = b := by
  refine List.ext_getElem hl fun i h1 h2 => ?_
  have := h i h1
  simpa [h1, h2] using this

def Grw (h0 h : Heap) (sz : Nat) (v : AV) (n : Nat) (cs : List AV) : Prop :=
  HSub h0 h ∧ cs.length = n * sz ∧ n < 9223372036854775808 ∧ ((v = .nilslice ∧ n = 0) ∨ ∃ i ex, h0.size ≤ i ∧ v = .slice i 0 n (.unk 0) ∧ h.get i = some (.cells (cs ++ ex) true sz))
theorem cut_pre {cs ex : List AV} {k : Nat} (h : cs.length = k) : cut (cs ++ ex) 0 k = cs := by subst h; simp [cut]
def GrwI (h0 h : Heap) (v : AV) (l : List Int) : Prop := Grw h0 h 1 v l.length (ints l)
def snocH (H : Heap) (nid : Option Nat) (v : AV) (sz : Nat) (cs : List AV) : Heap :=
  match v with
  | .slice i _ _ _ => (H.put i .dead).new nid (.cells cs true sz)
  | _ => H.new nid (.cells cs true sz)
section
variable {h0 h H : Heap} {sz bytes n m k : Nat} {v : AV} {cs news : List AV} {l : List Int}
theorem Grw.sub (A : Grw h0 h sz v n cs) : HSub h0 h := A.1
theorem Grw.sl (A : Grw h0 h sz v n cs) : SL h sz v n cs := by
  obtain ⟨hs, hl, hn, ⟨rfl, rfl⟩ | ⟨i, ex, hi, rfl, hg⟩⟩ := A
  · exact ⟨hl, hn, .inl ⟨rfl, rfl⟩⟩
  · exact ⟨hl, hn, .inr ⟨i, 0, _, _, true, sz, rfl, hg, by rw [List.length_append]; omega, cut_pre hl, by simp⟩⟩
theorem GrwI.ri (A : GrwI h0 h v l) : RI h v l := Grw.sl A
theorem GrwI.sub (A : GrwI h0 h v l) : HSub h0 h := A.1
theorem Grw.nil (h : Heap) (sz : Nat) : Grw h h sz .nilslice 0 [] := ⟨HSub.refl _, by simp, by omega, .inl ⟨rfl, rfl⟩⟩
theorem GrwI.nil (h : Heap) : GrwI h h .nilslice [] := Grw.nil h 1
theorem GrwI.nil' (hs : HSub h0 h) : GrwI h0 h .nilslice [] := ⟨hs, by simp [ints], by simp, .inl ⟨rfl, rfl⟩⟩
theorem Grw.mono (A : Grw h0 h sz v n cs) (hs : HSub h H) : Grw h0 H sz v n cs := by
  obtain ⟨h1, hl, hn, ⟨rfl, rfl⟩ | ⟨i, ex, hi, rfl, hg⟩⟩ := A
  · exact ⟨h1.trans hs, hl, hn, .inl ⟨rfl, rfl⟩⟩
  · exact ⟨h1.trans hs, hl, hn, .inr ⟨i, ex, hi, rfl, (hs.get i (Heap.lt_of_get hg)).trans hg⟩⟩
theorem GrwI.mono (A : GrwI h0 h v l) (hs : HSub h H) : GrwI h0 H v l := Grw.mono A hs
theorem Grw.base {h1' : Heap} (A : Grw h h1' sz v n cs) (hs : HSub h0 h) : Grw h0 h1' sz v n cs := by
  obtain ⟨h1, hl, hn, ⟨rfl, rfl⟩ | ⟨i, ex, hi, rfl, hg⟩⟩ := A
  · exact ⟨hs.trans h1, hl, hn, .inl ⟨rfl, rfl⟩⟩
  · exact ⟨hs.trans h1, hl, hn, .inr ⟨i, ex, Nat.le_trans hs.size hi, rfl, hg⟩⟩
theorem GrwI.base {h1 : Heap} (A : GrwI h h1 v l) (hs : HSub h0 h) : GrwI h0 h1 v l := Grw.base A hs

theorem Grw.app (A : Grw h0 h sz v n cs) (hs : HSub h H) (hm : m ≠ 0) (hb : (n + m) * bytes ≤ 1099511627776) (h1 : news.all AV.one = true) :
    appendA H none sz bytes v m news = some (.slice H.size 0 (n + m) (.unk 0), snocH H none v sz (cs ++ news)) := by
  obtain ⟨_, hl, hn, ⟨rfl, rfl⟩ | ⟨i, ex, hi, rfl, hg⟩⟩ := A
  · have : cs = [] := List.eq_nil_of_length_eq_zero (by omega)
    subst this
    rw [Nat.zero_add] at hb ⊢
    rw [app_nil hm hb]
    simp [snocH, Heap.new]
  · have e := (hs.get i (Heap.lt_of_get hg)).trans hg
    rw [app_unk, e, appUB_grow (by rw [List.length_append]; omega) (by omega) hb h1, cut_pre hl]
    rfl
def appK (n : Nat) (H : Heap) (v r : AV) (sz : Nat) (cs : List AV) : Option ABlk → Option (AV × Heap)
  | none => some (r, snocH H (some n) v sz cs)
  | _ => none
theorem appK_none {r : AV} : appK k H v r sz cs none = some (r, snocH H (some k) v sz cs) := rfl
theorem Grw.appS (A : Grw h0 h sz v n cs) (hs : HSub h H) (hk : h.size ≤ k ∧ k < H.size) (hm : m ≠ 0) (hb : (n + m) * bytes ≤ 1099511627776) (h1 : news.all AV.one = true) :
    appendA H (some k) sz bytes v m news = appK k H v (.slice k 0 (n + m) (.unk 0)) sz (cs ++ news) (H.get k) := by
  obtain ⟨_, hl, hn, ⟨rfl, rfl⟩ | ⟨i, ex, hi, rfl, hg⟩⟩ := A
  · have : cs = [] := List.eq_nil_of_length_eq_zero (by omega)
    subst this
    rw [Nat.zero_add] at hb ⊢
    have hr : H.room (some k) = ((H.get k).isNone && decide (k < H.size)) := rfl
    simp only [appendA, if_neg hm]
    by_cases e : (H.get k).isNone = true
    · have e' : H.get k = none := by simpa using e
      rw [if_pos ⟨hb, by rw [hr, e]; simpa using hk.2⟩]
      exact (congrArg (appK k H .nilslice (.slice k 0 m (.unk 0)) sz ([] ++ news)) e').symm
    · rw [if_neg (by rw [hr]; simp [e])]
      obtain ⟨b, e'⟩ : ∃ b, H.get k = some b := by cases x : H.get k with | none => simp [x] at e | some b => exact ⟨b, rfl⟩
      exact (congrArg (appK k H .nilslice (.slice k 0 m (.unk 0)) sz ([] ++ news)) e').symm
  · have e0 := (hs.get i (Heap.lt_of_get hg)).trans hg
    have hr : H.room (some k) = ((H.get k).isNone && decide (k < H.size)) := rfl
    simp only [appendA, e0]
    by_cases e : (H.get k).isNone = true
    · have e' : H.get k = none := by simpa using e
      rw [if_pos ⟨trivial, by omega, by rw [List.length_append]; omega, h1, hb, by rw [hr, e]; simpa using hk.2, by omega⟩, cut_pre hl]
      exact (congrArg (appK k H (.slice i 0 n (.unk 0)) (.slice k 0 (n + m) (.unk 0)) sz (cs ++ news)) e').symm
    · rw [if_neg (by rw [hr]; simp [e]), if_neg (by omega)]
      obtain ⟨b, e'⟩ : ∃ b, H.get k = some b := by cases x : H.get k with | none => simp [x] at e | some b => exact ⟨b, rfl⟩
      exact (congrArg (appK k H (.slice i 0 n (.unk 0)) (.slice k 0 (n + m) (.unk 0)) sz (cs ++ news)) e').symm
theorem Grw.snoc (A : Grw h0 h sz v n cs) (hs : HSub h H) (hl : news.length = m * sz) (hn : n + m < 9223372036854775808) :
    Grw h0 (snocH H none v sz (cs ++ news)) sz (.slice H.size 0 (n + m) (.unk 0)) (n + m) (cs ++ news) := by
  obtain ⟨h1, hl', hn', ⟨rfl, rfl⟩ | ⟨i, ex, hi, rfl, hg⟩⟩ := A
  · exact ⟨(h1.trans hs).push _, by rw [List.length_append, Nat.add_mul]; omega, hn, .inr ⟨H.size, [], (h1.trans hs).size, rfl, by rw [List.append_nil]; exact get_push_eq rfl⟩⟩
  · exact ⟨((h1.trans hs).put hi _).push _, by rw [List.length_append, Nat.add_mul]; omega, hn, .inr ⟨H.size, [], (h1.trans hs).size, rfl, by rw [List.append_nil]; exact get_push_eq rfl⟩⟩
theorem Grw.snocS (A : Grw h0 h sz v n cs) (hs : HSub h H) (hk : h.size ≤ k ∧ k < H.size) (hl : news.length = m * sz) (hn : n + m < 9223372036854775808) :
    Grw h0 (snocH H (some k) v sz (cs ++ news)) sz (.slice k 0 (n + m) (.unk 0)) (n + m) (cs ++ news) := by
  obtain ⟨h1, hl', hn', ⟨rfl, rfl⟩ | ⟨i, ex, hi, rfl, hg⟩⟩ := A
  · have := h1.size
    exact ⟨(h1.trans hs).put (by omega) _, by rw [List.length_append, Nat.add_mul]; omega, hn, .inr ⟨k, [], by omega, rfl, by rw [List.append_nil]; exact get_put_eq rfl hk.2⟩⟩
  · have := h1.size
    exact ⟨((h1.trans hs).put hi _).put (by omega) _, by rw [List.length_append, Nat.add_mul]; omega, hn, .inr ⟨k, [], by omega, rfl, by rw [List.append_nil]; exact get_put_eq rfl (by simpa using hk.2)⟩⟩
theorem GrwI.app {x : Int} (A : GrwI h0 h v l) : ∀ (H : Heap), HSub h H → l.length + 1 ≤ 1073741824 → appendA H none 1 8 v 1 [.int .i64 x] = some (.slice H.size 0 (l.length + 1) (.unk 0), snocH H none v 1 (ints (l ++ [x]))) := by
  intro H hs hb
  rw [Grw.app A hs (by decide) (by omega) (by rfl), ints_snoc]
theorem GrwI.appS {x : Int} (A : GrwI h0 h v l) : ∀ (H : Heap) (k : Nat), HSub h H → h.size ≤ k ∧ k < H.size → l.length + 1 ≤ 1073741824 → appendA H (some k) 1 8 v 1 [.int .i64 x] = appK k H v (.slice k 0 (l.length + 1) (.unk 0)) 1 (ints (l ++ [x])) (H.get k) := by
  intro H k hs hk hb
  rw [Grw.appS A hs hk (by decide) (by omega) (by rfl), ints_snoc]
theorem GrwI.snoc {x : Int} (A : GrwI h0 h v l) (hs : HSub h H) (hb : l.length + 1 ≤ 1073741824) : GrwI h0 (snocH H none v 1 (ints (l ++ [x]))) (.slice H.size 0 (l.length + 1) (.unk 0)) (l ++ [x]) := by
  have := Grw.snoc (news := [.int .i64 x]) (m := 1) A hs rfl (by omega)
  rw [ints_snoc] at this
  unfold GrwI; rw [List.length_append]; exact this
theorem GrwI.snocS {x : Int} (A : GrwI h0 h v l) (hs : HSub h H) (hk : h.size ≤ k ∧ k < H.size) (hb : l.length + 1 ≤ 1073741824) : GrwI h0 (snocH H (some k) v 1 (ints (l ++ [x]))) (.slice k 0 (l.length + 1) (.unk 0)) (l ++ [x]) := by
  have := Grw.snocS (news := [.int .i64 x]) (m := 1) A hs hk rfl (by omega)
  rw [ints_snoc] at this
  unfold GrwI; rw [List.length_append]; exact this
theorem Grw.fresh {i : Nat} (hs : HSub h0 h) (hi : h0.size ≤ i) (hl : l.length < 9223372036854775808) (hg : h.get i = some (.cells (ints l) true 1)) : GrwI h0 h (.slice i 0 l.length (.unk 0)) l :=
  ⟨hs, by simp [ints], hl, .inr ⟨i, [], hi, rfl, by rw [List.append_nil]; exact hg⟩⟩
theorem RI.snocH {w : AV} {L : List Int} (hw : RI h0 w L) (A : Grw h0 H sz v n cs) : RI H w L := hw.mono A.sub
end

def contB (n sz o : Nat) : Option ABlk → Option (Nat × List AV)
  | some (.cells vs _ _) => if o + n * sz ≤ vs.length then some (n, cut vs o (n * sz)) else none
  | _ => none
theorem cont_slice {h : Heap} {sz i o n : Nat} {c : Cap} : contentA h sz (.slice i o n c) = contB n sz o (h.get i) := by
  simp only [contentA, contB]
  cases h.get i with
  | none => rfl
  | some b => cases b <;> rfl
theorem contB_some {n sz o u : Nat} {vs : List AV} {wr : Bool} (h : o + n * sz ≤ vs.length) : contB n sz o (some (.cells vs wr u)) = some (n, cut vs o (n * sz)) := by simp only [contB, if_pos h]
theorem contB_one {x : AV} {u : Nat} {wr : Bool} : contB 1 1 0 (some (.cells [x] wr u)) = some (1, [x]) := rfl

section
variable {C : Ctx}
def revP (l : List Int) (j : Nat) : List Int := (List.range l.length).map fun k => if k < j ∨ l.length ≤ k + j then l.getD (l.length - 1 - k) 0 else l.getD k 0
end
end Go.Ae

/- Grow and Concat of Go's slices package, on numbers. -/
set_option linter.unusedSimpArgs false
set_option linter.unusedVariables false
namespace Go.Ae

def appMA (nid : Option Nat) (z : List AV) (bytes : Nat) (h : Heap) (s : AV) : AV → Option (AV × Heap)
  | .int _ m => if 0 ≤ m ∧ m ≤ 2 ^ 36 then appendA h nid z.length bytes s m.toNat (zerosA m.toNat z) else none
  | _ => none
theorem opR_appendMake {nid : Option Nat} {ev : AOpd → AV} {h : Heap} {K : AV → Heap → Prop} {z bytes s x} : @opR nid (.appendMake z bytes s x) ev h ⟨K⟩ = @opt2 (appMA nid z bytes h (ev s) (ev x)) ⟨K⟩ := by
  simp only [opR, aOp, opt2]
  cases ev x <;> simp only [appMA]
  rename_i k m
  by_cases c : 0 ≤ m ∧ m ≤ 2 ^ 36
  · simp only [if_pos c]
    cases appendA h nid z.length bytes (ev s) m.toNat (zerosA m.toNat z) <;> rfl
  · simp only [if_neg c]
theorem appMA_int {nid z bytes h s} {k : IntKind} {m : Int} (c : 0 ≤ m ∧ m ≤ 68719476736) : appMA nid z bytes h s (.int k m) = appendA h nid z.length bytes s m.toNat (zerosA m.toNat z) := by
  simp only [appMA]; rw [if_pos (by omega)]
def slB (n i : Nat) : Option ABlk → Option AV
  | some (.cells vs true 1) => if n ≤ vs.length then some (.slice i 0 0 (.unk 0)) else none
  | _ => none
theorem slice_unk0 {h : Heap} {i n : Nat} {vs : List AV} (hg : h.get i = some (.cells vs true 1)) (hn : n ≤ vs.length) : sliceA h 1 (.slice i 0 n (.unk 0)) none (some (.int .i64 0)) none = some (.slice i 0 0 (.unk 0)) := by
  simp only [sliceA, hg]
  rw [if_pos ⟨trivial, by simp, by omega⟩]
  rw [bounds_ok (a := 0) (b := 0) (c := n) rfl rfl rfl (by omega)]
  simp
section
variable {C : Ctx}
theorem Grow_spec (hC : Has C T56) {n : Nat} {h : Heap} (hn : 1 ≤ n ∧ n ≤ 1073741824) : ACalls C 56 [.nilslice, .int .i64 n] h (fun r h' => GrwI h h' r []) := by
  have es : sliceA (h.push (.cells (List.replicate n (.int .i64 0)) true 1)) 1 (.slice h.size 0 n (.unk 0)) none (some (.int .i64 0)) none = some (.slice h.size 0 0 (.unk 0)) := slice_unk0 (get_push_eq rfl) (by simp)
  (refine calls_intro (hC.body (by decide) tab56) (Nat.le_of_ble_eq_true rfl) ?_); (show wp C _ none B56.code _ _); (simp only [B56]); simp -implicitDefEqProofs (disch := first | assumption | decide | omega | (simp only [wpD1] <;> omega) | (simp only [wpD2] <;> assumption) | solve_by_elim [HSub.refl, HSub.push, HSub.reserve] | fail) only [↓wpPre, wpPost, wpPoly, Int.reduceToNat, Int.reducePow, Int.reduceMul, Int.reduceAdd, Int.reduceSub, Int.reduceNeg, Nat.reduceAdd, Nat.reduceMul, Nat.reducePow, Int.reduceLT, Int.reduceLE, Int.reduceEq, Nat.reduceEqDiff, show capA .nilslice = some (.int .i64 0) from rfl, show sliceA h 1 .nilslice none (some (.int .i64 0)) none = some .nilslice from rfl, opR_appendMake, appMA_int, Int.sub_zero, es]
  exact ⟨HSub.push1 _ _, by simp [ints], by simp, .inr ⟨h.size, List.replicate n (.int .i64 0), Nat.le_refl _, rfl, by rw [get_push_eq rfl]; simp [ints]⟩⟩

def flatP (ps : List (AV × List Int)) : List Int := (ps.map (·.2)).flatten
theorem flatP_succ {ps : List (AV × List Int)} {i : Nat} (h : i < ps.length) : flatP (ps.take (i + 1)) = flatP (ps.take i) ++ (ps.getD i default).2 := by
  unfold flatP
  rw [List.take_add_one, List.getElem?_eq_getElem h, Option.toList_some, List.map_append, List.flatten_append, List.getD_eq_getElem?_getD, List.getElem?_eq_getElem h]
  simp
theorem flatP_le {ps : List (AV × List Int)} (i : Nat) : (flatP (ps.take i)).length ≤ (flatP ps).length := by
  have : flatP ps = flatP (ps.take i) ++ flatP (ps.drop i) := by
    unfold flatP; rw [← List.flatten_append, ← List.map_append, List.take_append_drop]
  rw [this, List.length_append]; omega
theorem Concat_spec (hC : Has C T47) {ps : List (AV × List Int)} {j u : Nat} {wr : Bool} {c : Cap} {h : Heap} (hg : h.get j = some (.cells (ps.map (·.1)) wr u)) (hp : ∀ p ∈ ps, RI h p.1 p.2 ∧ 1 ≤ p.2.length) (hl : 1 ≤ ps.length ∧ ps.length ≤ 1000000) (hb : (flatP ps).length ≤ 1073741824) :
    ACalls C 47 [.slice j 0 ps.length c] h (fun r h' => GrwI h h' r (flatP ps)) := by
  have gp : ∀ i, i < ps.length → ps.getD i default ∈ ps := fun i hi => by rw [List.getD_eq_getElem?_getD, List.getElem?_eq_getElem hi]; exact List.getElem_mem hi
  have gi : ∀ i, i < ps.length → (ps.map (·.1))[i]? = some (ps.getD i default).1 := fun i hi => by simp [hi]
  have hj := Heap.lt_of_get hg
  have hpos : 1 ≤ (flatP ps).length := by
    have h1 := flatP_succ (ps := ps) (i := 0) (by omega)
    have h2 := flatP_le (ps := ps) 1
    have h3 := (hp _ (gp 0 (by omega))).2
    rw [h1, List.length_append] at h2; omega
  (refine calls_intro (hC.body (by decide) tab47) (Nat.le_of_ble_eq_true rfl) ?_); (show wp C _ none B47.code _ _); (simp only [B47]); simp -implicitDefEqProofs (disch := first | assumption | decide | omega | (simp only [wpD1] <;> omega) | (simp only [wpD2] <;> assumption) | solve_by_elim [HSub.refl, HSub.push, HSub.reserve] | fail) only [↓wpPre, wpPost, wpPoly, Int.reduceToNat, Int.reducePow, Int.reduceMul, Int.reduceAdd, Int.reduceSub, Int.reduceNeg, Nat.reduceAdd, Nat.reduceMul, Nat.reducePow, Int.reduceLT, Int.reduceLE, Int.reduceEq, Nat.reduceEqDiff]
  refine wp_loopI (fun m t h' => h' = h ∧ t 0 = .slice j 0 ps.length c ∧ t 9 = .slice j 0 ps.length c ∧ t 10 = .int .i64 ps.length ∧ ∃ i : Nat, t 3 = .int .i64 (flatP (ps.take i)).length ∧ t 11 = .int .i64 (i : Nat) ∧ i ≤ ps.length ∧ m = ps.length - i) (j0 := ps.length) ⟨rfl, rfl, rfl, rfl, 0, by simp [flatP, argT, upd], rfl, by omega, rfl⟩ ?_
  rintro m t h' ⟨hh, e0, e9, e10, i, e3, e11, hi, hm⟩
  subst hh
  simp -implicitDefEqProofs (disch := first | assumption | decide | omega | (simp only [wpD1] <;> omega) | (simp only [wpD2] <;> assumption) | solve_by_elim [HSub.refl, HSub.push, HSub.reserve] | fail) only [↓wpPre, wpPost, wpPoly, Int.reduceToNat, Int.reducePow, Int.reduceMul, Int.reduceAdd, Int.reduceSub, Int.reduceNeg, Nat.reduceAdd, Nat.reduceMul, Nat.reducePow, Int.reduceLT, Int.reduceLE, Int.reduceEq, Nat.reduceEqDiff, e10, e11]
  refine Br.by (fun c1 => ?_) (fun c1 => ?_)
  · have hi' : i < ps.length := by omega
    have H := hp _ (gp i hi')
    have hs := flatP_succ hi'
    have hle := flatP_le (ps := ps) (i + 1)
    rw [hs, List.length_append] at hle
    simp -implicitDefEqProofs (disch := first | assumption | decide | omega | (simp only [wpD1] <;> omega) | (simp only [wpD2] <;> assumption) | solve_by_elim [HSub.refl, HSub.push, HSub.reserve] | fail) only [↓wpPre, wpPost, wpPoly, Int.reduceToNat, Int.reducePow, Int.reduceMul, Int.reduceAdd, Int.reduceSub, Int.reduceNeg, Nat.reduceAdd, Nat.reduceMul, Nat.reducePow, Int.reduceLT, Int.reduceLE, Int.reduceEq, Nat.reduceEqDiff, e9, e11, hg, gi, H.1.len, e3]
    simp -implicitDefEqProofs (disch := first | assumption | decide | omega | (simp only [wpD1] <;> omega) | (simp only [wpD2] <;> assumption) | solve_by_elim [HSub.refl, HSub.push, HSub.reserve] | fail) only [↓wpPre, wpPost, wpPoly, Int.reduceToNat, Int.reducePow, Int.reduceMul, Int.reduceAdd, Int.reduceSub, Int.reduceNeg, Nat.reduceAdd, Nat.reduceMul, Nat.reducePow, Int.reduceLT, Int.reduceLE, Int.reduceEq, Nat.reduceEqDiff, e0, e9, e10, e11]
    refine ⟨_, ⟨i + 1, by rw [hs, List.length_append]; simp, by simp, by omega, rfl⟩, by omega⟩
  · have : i = ps.length := by omega
    subst this
    rw [List.take_length] at e3
    simp -implicitDefEqProofs (disch := first | assumption | decide | omega | (simp only [wpD1] <;> omega) | (simp only [wpD2] <;> assumption) | solve_by_elim [HSub.refl, HSub.push, HSub.reserve] | fail) only [↓wpPre, wpPost, wpPoly, Int.reduceToNat, Int.reducePow, Int.reduceMul, Int.reduceAdd, Int.reduceSub, Int.reduceNeg, Nat.reduceAdd, Nat.reduceMul, Nat.reducePow, Int.reduceLT, Int.reduceLE, Int.reduceEq, Nat.reduceEqDiff, e3]
    refine ACallsK.of (Grow_spec (hC.sub (T' := T56) (by decide)) ⟨hpos, hb⟩) ?_
    rintro r h1 A
    simp -implicitDefEqProofs (disch := first | assumption | decide | omega | (simp only [wpD1] <;> omega) | (simp only [wpD2] <;> assumption) | solve_by_elim [HSub.refl, HSub.push, HSub.reserve] | fail) only [↓wpPre, wpPost, wpPoly, Int.reduceToNat, Int.reducePow, Int.reduceMul, Int.reduceAdd, Int.reduceSub, Int.reduceNeg, Nat.reduceAdd, Nat.reduceMul, Nat.reducePow, Int.reduceLT, Int.reduceLE, Int.reduceEq, Nat.reduceEqDiff, e0]
    refine wp_loopI (fun m t hx => t 25 = .slice j 0 ps.length c ∧ t 26 = .int .i64 ps.length ∧ ∃ (i : Nat), GrwI h' hx (t 6) (flatP (ps.take i)) ∧ t 27 = .int .i64 (i : Nat) ∧ i ≤ ps.length ∧ m = ps.length - i) (j0 := ps.length) ⟨rfl, rfl, 0, A, rfl, by omega, rfl⟩ ?_
    rintro m t h2 ⟨e25, e26, i, A2, e27, hi, hm⟩
    simp -implicitDefEqProofs (disch := first | assumption | decide | omega | (simp only [wpD1] <;> omega) | (simp only [wpD2] <;> assumption) | solve_by_elim [HSub.refl, HSub.push, HSub.reserve] | fail) only [↓wpPre, wpPost, wpPoly, Int.reduceToNat, Int.reducePow, Int.reduceMul, Int.reduceAdd, Int.reduceSub, Int.reduceNeg, Nat.reduceAdd, Nat.reduceMul, Nat.reducePow, Int.reduceLT, Int.reduceLE, Int.reduceEq, Nat.reduceEqDiff, e26, e27]
    refine Br.by (fun c1 => ?_) (fun c1 => ?_)
    · have hi' : i < ps.length := by omega
      have H := hp _ (gp i hi')
      have hs := flatP_succ hi'
      have hle := flatP_le (ps := ps) (i + 1)
      rw [hs, List.length_append] at hle
      have hc := (H.1.mono A2.sub).content
      have hg2 := (A2.sub.get j hj).trans hg
      have ha := Grw.app (bytes := 8) (m := (ps.getD i default).2.length) (news := ints (ps.getD i default).2) A2 (HSub.refl _) (by omega) (by omega) ints_one
      simp -implicitDefEqProofs (disch := first | assumption | decide | omega | (simp only [wpD1] <;> omega) | (simp only [wpD2] <;> assumption) | solve_by_elim [HSub.refl, HSub.push, HSub.reserve] | fail) only [↓wpPre, wpPost, wpPoly, Int.reduceToNat, Int.reducePow, Int.reduceMul, Int.reduceAdd, Int.reduceSub, Int.reduceNeg, Nat.reduceAdd, Nat.reduceMul, Nat.reducePow, Int.reduceLT, Int.reduceLE, Int.reduceEq, Nat.reduceEqDiff, e25, e26, e27, hg2, gi, hc, ha]
      have hsn := Grw.snoc (m := (ps.getD i default).2.length) (news := ints (ps.getD i default).2) A2 (HSub.refl _) (by simp [ints]) (by omega)
      rw [ints_append, ← hs] at hsn
      rw [ints_append, ← hs]
      refine ⟨_, ⟨i + 1, ?_, by simp, by omega, rfl⟩, by omega⟩
      unfold GrwI
      rw [hs, List.length_append, ← hs]; exact hsn
    · have : i = ps.length := by omega
      subst this
      rw [List.take_length] at A2
      simp -implicitDefEqProofs (disch := first | assumption | decide | omega | (simp only [wpD1] <;> omega) | (simp only [wpD2] <;> assumption) | solve_by_elim [HSub.refl, HSub.push, HSub.reserve] | fail) only [↓wpPre, wpPost, wpPoly, Int.reduceToNat, Int.reducePow, Int.reduceMul, Int.reduceAdd, Int.reduceSub, Int.reduceNeg, Nat.reduceAdd, Nat.reduceMul, Nat.reducePow, Int.reduceLT, Int.reduceLE, Int.reduceEq, Nat.reduceEqDiff]
      exact A2
end
end Go.Ae

/- Registers of layer 8: windows of a sequence, packed states, periods. -/
set_option linter.unusedSimpArgs false
set_option linter.unusedVariables false
namespace Go.Ae

/-! ### Sums of bits -/
def bsum (f : Nat → Nat) : Nat → Nat
  | 0 => 0
  | n + 1 => bsum f n + f n
theorem bsum_congr {f g : Nat → Nat} : ∀ n, (∀ i, i < n → f i = g i) → bsum f n = bsum g n
  | 0, _ => rfl
  | n + 1, h => by simp only [bsum]; rw [bsum_congr n (fun i hi => h i (by omega)), h n (by omega)]
theorem bsum_add (f : Nat → Nat) (a : Nat) : ∀ b, bsum f (a + b) = bsum f a + bsum (fun i => f (a + i)) b
  | 0 => rfl
  | b + 1 => by rw [← Nat.add_assoc]; simp only [bsum]; rw [bsum_add f a b]; omega
theorem bsum_one {f g : Nat → Nat} {t d : Nat} : ∀ n, (∀ i, i < n → f i = g i + if i = t then d else 0) → bsum f n = bsum g n + if t < n then d else 0
  | 0, _ => by simp [bsum]
  | n + 1, h => by
    have ih := bsum_one n (fun i hi => h i (by omega))
    have h1 := h n (by omega)
    simp only [bsum, ih, h1]
    by_cases c : t < n
    · rw [if_pos c, if_neg (by omega), if_pos (by omega)]; omega
    · by_cases c2 : n = t
      · rw [if_neg c, if_pos c2, if_pos (by omega)]; omega
      · rw [if_neg c, if_neg c2, if_neg (by omega)]; omega
def bitN (x i : Nat) : Nat := (x.testBit i).toNat
def pop (x n : Nat) : Nat := bsum (bitN x) n
theorem pop_add (x a b : Nat) : pop x (a + b) = pop x a + pop (x >>> a) b := by
  unfold pop
  rw [bsum_add]
  congr 1
  refine bsum_congr _ fun i _ => ?_
  simp [bitN, Nat.testBit_shiftRight]
theorem pop_mod (x n : Nat) : pop (x % 2 ^ n) n = pop x n := by
  refine bsum_congr _ fun i hi => ?_
  simp [bitN, Nat.testBit_mod_two_pow, hi]

/-! ### Windows -/
def bit01 (l : List Int) : Prop := ∀ x ∈ l, x = 0 ∨ x = 1
theorem bit01.get {l : List Int} (h : bit01 l) (i : Nat) : l.getD i 0 = 0 ∨ l.getD i 0 = 1 := by
  by_cases hi : i < l.length
  · exact h _ (getD_mem hi)
  · left; rw [List.getD_eq_getElem?_getD, List.getElem?_eq_none (by omega)]; rfl
def packL : List Int → Nat
  | [] => 0
  | b :: l => b.toNat + 2 * packL l
theorem packL_lt : ∀ {l : List Int}, bit01 l → packL l < 2 ^ l.length
  | [], _ => by simp [packL]
  | b :: l, h => by
    have ih := packL_lt (l := l) (fun x hx => h x (List.mem_cons_of_mem _ hx))
    have hb := h b List.mem_cons_self
    simp only [packL, List.length_cons, Nat.pow_succ]
    rcases hb with rfl | rfl <;> simp <;> omega
theorem packL_bit : ∀ {l : List Int}, bit01 l → ∀ i, bitN (packL l) i = (l.getD i 0).toNat
  | [], _, i => by simp [packL, bitN]
  | b :: l, h, 0 => by
    have hb := h b List.mem_cons_self
    simp only [packL, bitN, Nat.testBit_zero, List.getD_cons_zero]
    rcases hb with rfl | rfl <;> simp <;> omega
  | b :: l, h, i + 1 => by
    have ih := packL_bit (l := l) (fun x hx => h x (List.mem_cons_of_mem _ hx)) i
    have hb := h b List.mem_cons_self
    have e : (b.toNat + 2 * packL l) / 2 = packL l := by rcases hb with rfl | rfl <;> simp <;> omega
    simp only [packL, bitN, Nat.testBit_succ, List.getD_cons_succ]
    rw [e]; exact ih
theorem packL_snoc : ∀ (l : List Int) (x : Int), packL (l ++ [x]) = packL l + 2 ^ l.length * x.toNat
  | [], x => by simp [packL]
  | b :: l, x => by
    simp only [List.cons_append, packL, packL_snoc l x, List.length_cons, Nat.pow_succ]
    rw [Nat.mul_add, Nat.mul_comm _ 2, Nat.mul_assoc, ← Nat.add_assoc]
theorem packL_inj : ∀ {a b : List Int}, a.length = b.length → bit01 a → bit01 b → packL a = packL b → a = b
  | [], [], _, _, _, _ => rfl
  | x :: a, y :: b, hl, ha, hb, he => by
    have hx := ha x List.mem_cons_self
    have hy := hb y List.mem_cons_self
    simp only [packL] at he
    have : x = y := by rcases hx with rfl | rfl <;> rcases hy with rfl | rfl <;> simp at he ⊢ <;> omega
    subst this
    rw [packL_inj (by simpa using hl) (fun z hz => ha z (List.mem_cons_of_mem _ hz)) (fun z hz => hb z (List.mem_cons_of_mem _ hz)) (by omega)]
  | [], _ :: _, hl, _, _, _ => by simp at hl
  | _ :: _, [], hl, _, _, _ => by simp at hl

def xorT (ts : List Int) (w : List Int) : Int := ts.foldl (fun x t => (x + w.getD t.toNat 0) % 2) 0
def maskT (ts : List Int) : Nat := ts.foldl (fun m t => m ||| 2 ^ t.toNat) 0
theorem xorT_snoc (ts : List Int) (t : Int) (w : List Int) : xorT (ts ++ [t]) w = (xorT ts w + w.getD t.toNat 0) % 2 := by simp [xorT]
theorem maskT_snoc (ts : List Int) (t : Int) : maskT (ts ++ [t]) = maskT ts ||| 2 ^ t.toNat := by simp [maskT]
theorem xorT_01 (ts : List Int) (w : List Int) : xorT ts w = 0 ∨ xorT ts w = 1 := by
  unfold xorT
  suffices ∀ a : Int, (a = 0 ∨ a = 1) → (ts.foldl (fun x t => (x + w.getD t.toNat 0) % 2) a = 0 ∨ ts.foldl (fun x t => (x + w.getD t.toNat 0) % 2) a = 1) from this 0 (.inl rfl)
  induction ts with
  | nil => intro a ha; exact ha
  | cons t ts ih => intro a ha; exact ih _ (by dsimp only; omega)
theorem maskT_bit : ∀ (ts : List Int) (m j : Nat), (ts.foldl (fun m t => m ||| 2 ^ t.toNat) m).testBit j = (m.testBit j || ts.any fun t => t.toNat == j)
  | [], m, j => by simp
  | t :: ts, m, j => by
    simp only [List.foldl_cons, maskT_bit ts, Nat.testBit_or, Nat.testBit_two_pow, List.any_cons]
    rw [Bool.or_assoc]; rfl

def tapOk (n : Int) (l : List Int) (j : Nat) : Prop := (if j = 0 then -1 else l.getD (j - 1) 0) < l.getD j 0 ∧ l.getD j 0 < n
instance (n : Int) (l : List Int) (j : Nat) : Decidable (tapOk n l j) := by unfold tapOk; infer_instance
theorem tap_mono {n : Int} {l : List Int} (h : ∀ j, j < l.length → tapOk n l j) : ∀ (j i : Nat), i < j → j < l.length → l.getD i 0 < l.getD j 0
  | 0, i, hi, _ => by omega
  | j + 1, i, hi, hj => by
    have h1 := (h (j + 1) hj).1
    rw [if_neg (by omega), show j + 1 - 1 = j by omega] at h1
    rcases Nat.lt_or_ge i j with x | x
    · have := tap_mono h j i x (by omega); omega
    · have : i = j := by omega
      subst this; exact h1
theorem tap_nonneg {n : Int} {l : List Int} (h : ∀ j, j < l.length → tapOk n l j) {j : Nat} (hj : j < l.length) : 0 ≤ l.getD j 0 := by
  have h0 := (h 0 (by omega)).1
  rw [if_pos rfl] at h0
  rcases Nat.eq_zero_or_pos j with e | e
  · subst e; omega
  · have := tap_mono h j 0 e hj; omega
theorem maskT_new {n : Int} {l : List Int} (h : ∀ j, j < l.length → tapOk n l j) {i : Nat} (hi : i < l.length) : (maskT (l.take i)).testBit (l.getD i 0).toNat = false := by
  unfold maskT
  rw [maskT_bit]
  simp only [Nat.zero_testBit, Bool.false_or]
  refine List.any_eq_false.2 fun t ht => ?_
  obtain ⟨j, hj, rfl⟩ := List.mem_take_iff_getElem.1 ht
  have hj' : j < l.length := by omega
  have e : l[j] = l.getD j 0 := by simp [hj']
  have h1 := tap_mono h i j (by omega) hi
  have h2 := tap_nonneg h hj'
  rw [e]; simp only [beq_iff_eq]; omega
theorem maskT_lt {n : Nat} : ∀ (ts : List Int) (m : Nat), m < 2 ^ n → (∀ t ∈ ts, t.toNat < n) → ts.foldl (fun m t => m ||| 2 ^ t.toNat) m < 2 ^ n
  | [], m, h, _ => h
  | t :: ts, m, h, ht => maskT_lt ts _ (Nat.or_lt_two_pow h (Nat.pow_lt_pow_right (by decide) (ht t List.mem_cons_self))) (fun x hx => ht x (List.mem_cons_of_mem _ hx))

theorem pop_mask {n : Int} {l w : List Int} (hn : n ≤ 32) (h : ∀ j, j < l.length → tapOk n l j) (hw : bit01 w) : ∀ i, i ≤ l.length → ((pop (packL w &&& maskT (l.take i)) 32 % 2 : Nat) : Int) = xorT (l.take i) w
  | 0, _ => by
    have e : packL w &&& 0 = 0 := Nat.and_zero _
    have : ∀ k, pop 0 k = 0 := fun k => by
      unfold pop
      induction k with
      | zero => rfl
      | succ k ih => simp [bsum, ih, bitN]
    simp [maskT, xorT, this]
  | i + 1, hi => by
    have ih := pop_mask hn h hw i (by omega)
    have hm := maskT_new h (i := i) (by omega)
    have ht := (h i (by omega)).2
    have ht0 := tap_nonneg h (j := i) (by omega)
    have hb := packL_bit hw (l.getD i 0).toNat
    rw [take_succ_getD (by omega), maskT_snoc, xorT_snoc]
    have key : pop (packL w &&& (maskT (l.take i) ||| 2 ^ (l.getD i 0).toNat)) 32 = pop (packL w &&& maskT (l.take i)) 32 + if (l.getD i 0).toNat < 32 then bitN (packL w) (l.getD i 0).toNat else 0 := by
      refine bsum_one 32 fun j _ => ?_
      simp only [bitN, Nat.testBit_and, Nat.testBit_or, Nat.testBit_two_pow]
      by_cases e : j = (l.getD i 0).toNat
      · rw [if_pos e, ← e, e, hm]; simp
      · rw [if_neg e, decide_eq_false (Ne.symm e)]; simp
    rw [key, if_pos (by omega), hb]
    have hx := xorT_01 (l.take i) w
    have hy := hw.get (l.getD i 0).toNat
    omega

/-! ### Sequences -/
def stepW (ts w : List Int) : List Int := w.tail ++ [xorT ts w]
def winW (ts w : List Int) : Nat → List Int
  | 0 => w
  | k + 1 => stepW ts (winW ts w k)
def seqB (ts w : List Int) (k : Nat) : Int := (winW ts w k).getD 0 0
def runL (ts w : List Int) (m : Nat) : List Int := (List.range m).map (seqB ts w)
theorem runL_length (ts w : List Int) (m : Nat) : (runL ts w m).length = m := by simp [runL]
theorem runL_succ (ts w : List Int) (m : Nat) : runL ts w (m + 1) = runL ts w m ++ [seqB ts w m] := by simp [runL, List.range_succ]
theorem winW_length {ts w : List Int} (h : 1 ≤ w.length) : ∀ k, (winW ts w k).length = w.length
  | 0 => rfl
  | k + 1 => by simp [winW, stepW, winW_length h k]; omega
theorem winW_01 {ts w : List Int} (h : bit01 w) : ∀ k, bit01 (winW ts w k)
  | 0 => h
  | k + 1 => fun x hx => by
    simp only [winW, stepW, List.mem_append, List.mem_singleton] at hx
    rcases hx with hx | rfl
    · exact winW_01 h k x (List.mem_of_mem_tail hx)
    · exact xorT_01 _ _
theorem seqB_01 {ts w : List Int} (h : bit01 w) (k : Nat) : seqB ts w k = 0 ∨ seqB ts w k = 1 := (winW_01 h k).get 0
theorem packL_step {ts w : List Int} (h : 1 ≤ w.length) (hw : bit01 w) : packL (stepW ts w) = packL w / 2 + 2 ^ (w.length - 1) * (xorT ts w).toNat := by
  unfold stepW
  rw [packL_snoc]
  match w, h with
  | b :: w, _ =>
    have hb := hw b List.mem_cons_self
    simp only [List.tail_cons, List.length_cons, packL, Nat.add_sub_cancel]
    congr 1
    rcases hb with rfl | rfl <;> simp <;> omega

/-! ### Periods -/
def IsPeriod (ts w : List Int) (k : Nat) : Prop := 1 ≤ k ∧ winW ts w k = w ∧ ∀ j, 1 ≤ j → j < k → winW ts w j ≠ w
end Go.Ae

/- The table of bit counts, under a name. Printed by a program. -/
namespace Go.Ae
def popTab : List Nat := [0, 1, 1, 2, 1, 2, 2, 3, 1, 2, 2, 3, 2, 3, 3, 4, 1, 2, 2, 3, 2, 3, 3, 4, 2, 3, 3, 4, 3, 4, 4, 5, 1, 2, 2, 3, 2, 3, 3, 4, 2, 3, 3, 4, 3, 4, 4, 5, 2, 3, 3, 4, 3, 4, 4, 5, 3, 4, 4, 5, 4, 5, 5, 6, 1, 2, 2, 3, 2, 3, 3, 4, 2, 3, 3, 4, 3, 4, 4, 5, 2, 3, 3, 4, 3, 4, 4, 5, 3, 4, 4, 5, 4, 5, 5, 6, 2, 3, 3, 4, 3, 4, 4, 5, 3, 4, 4, 5, 4, 5, 5, 6, 3, 4, 4, 5, 4, 5, 5, 6, 4, 5, 5, 6, 5, 6, 6, 7, 1, 2, 2, 3, 2, 3, 3, 4, 2, 3, 3, 4, 3, 4, 4, 5, 2, 3, 3, 4, 3, 4, 4, 5, 3, 4, 4, 5, 4, 5, 5, 6, 2, 3, 3, 4, 3, 4, 4, 5, 3, 4, 4, 5, 4, 5, 5, 6, 3, 4, 4, 5, 4, 5, 5, 6, 4, 5, 5, 6, 5, 6, 6, 7, 2, 3, 3, 4, 3, 4, 4, 5, 3, 4, 4, 5, 4, 5, 5, 6, 3, 4, 4, 5, 4, 5, 5, 6, 4, 5, 5, 6, 5, 6, 6, 7, 3, 4, 4, 5, 4, 5, 5, 6, 4, 5, 5, 6, 5, 6, 6, 7, 4, 5, 5, 6, 5, 6, 6, 7, 5, 6, 6, 7, 6, 7, 7, 8]
theorem popTab_ok : ∀ i, i < 256 → popTab[i]? = some (pop i 8) ∧ pop i 8 ≤ 8 := by
  have h : ∀ i : Fin 256, popTab[i.val]? = some (pop i.val 8) ∧ pop i.val 8 ≤ 8 := by decide +kernel
  exact fun i hi => h ⟨i, hi⟩
theorem pop8_le (x : Nat) : pop x 8 ≤ 8 := by
  rw [← pop_mod]
  exact (popTab_ok _ (Nat.mod_lt _ (by decide))).2
theorem B102_eq : B102 = ((.mk 1 21 [(.tmp 2)] (.seq (.region [⟨(some 2), (.mv (.const (.int .i64 0))), none⟩]) (.seq (.draw 0 [⟨0, false, [], ⟨(some 3), (.mv (.tmp 0)), none⟩⟩, ⟨1, false, [], ⟨(some 4), (.bin .shr (.tmp 3) (.const (.int .u64 24))), none⟩⟩, ⟨2, false, [], ⟨(some 5), (.strIdx (.const (.str popTab)) (.tmp 4)), none⟩⟩, ⟨3, false, [], ⟨(some 6), (.mv (.tmp 0)), none⟩⟩, ⟨4, false, [], ⟨(some 7), (.bin .shr (.tmp 6) (.const (.int .u64 16))), none⟩⟩, ⟨5, false, [], ⟨(some 8), (.bin .and (.tmp 7) (.const (.int .u32 255))), none⟩⟩, ⟨6, false, [], ⟨(some 9), (.strIdx (.const (.str popTab)) (.tmp 8)), none⟩⟩, ⟨7, false, [], ⟨(some 10), (.bin .add (.tmp 5) (.tmp 9)), none⟩⟩, ⟨8, false, [], ⟨(some 11), (.mv (.tmp 0)), none⟩⟩, ⟨9, false, [], ⟨(some 12), (.bin .shr (.tmp 11) (.const (.int .u64 8))), none⟩⟩, ⟨10, false, [], ⟨(some 13), (.bin .and (.tmp 12) (.const (.int .u32 255))), none⟩⟩, ⟨11, false, [], ⟨(some 14), (.strIdx (.const (.str popTab)) (.tmp 13)), none⟩⟩, ⟨12, false, [], ⟨(some 15), (.bin .add (.tmp 10) (.tmp 14)), none⟩⟩, ⟨13, false, [], ⟨(some 16), (.mv (.tmp 0)), none⟩⟩, ⟨14, false, [], ⟨(some 17), (.bin .and (.tmp 16) (.const (.int .u32 255))), none⟩⟩, ⟨15, false, [], ⟨(some 18), (.strIdx (.const (.str popTab)) (.tmp 17)), none⟩⟩, ⟨16, false, [], ⟨(some 19), (.bin .add (.tmp 15) (.tmp 18)), none⟩⟩, ⟨17, false, [], ⟨(some 20), (.conv .i64 (.tmp 19)), none⟩⟩, ⟨18, false, [], ⟨(some 2), (.mv (.tmp 20)), none⟩⟩]) .ret)))) := rfl
end Go.Ae

/- Counting bits, looking up numbers. -/
set_option linter.unusedSimpArgs false
set_option linter.unusedVariables false
namespace Go.Ae

def strA (x i : AV) : Option AV :=
  match x, i with
  | .str bs, .int _ k => if 0 ≤ k then match bs[k.toNat]? with
      | some b => if b < 256 then some (.int .u8 b) else none
      | none => none
    else none
  | _, _ => none
theorem opR_strIdx {nid : Option Nat} {ev : AOpd → AV} {h : Heap} {K : AV → Heap → Prop} {x i} : @opR nid (.strIdx x i) ev h ⟨K⟩ = @opt1 (strA (ev x) (ev i)) h ⟨K⟩ := by
  simp only [opR, aOp, pureA, opt1]
  cases ev x <;> cases ev i <;> simp only [strA, Option.map_none]
  rename_i bs kk k
  by_cases c : 0 ≤ k
  · simp only [if_pos c]
    cases bs[k.toNat]? with
    | none => rfl
    | some b =>
      by_cases c2 : b < 256
      · simp only [if_pos c2]; rfl
      · simp only [if_neg c2]; rfl
  · simp only [if_neg c]; rfl
theorem str_pop {i : Int} {k : IntKind} (h : 0 ≤ i ∧ i < 256) : strA (.str popTab) (.int k i) = some (.int .u8 (pop i.toNat 8 : Nat)) := by
  have h1 := popTab_ok i.toNat (by omega)
  simp only [strA, if_pos h.1, h1.1]
  rw [if_pos (by omega)]
theorem nat32 {n : Nat} (h : n < 4294967296) : (BitVec.ofInt 32 (n : Int)).toNat = n := by
  rw [BitVec.toNat_ofInt]
  have : ((n : Int) % ((2 ^ 32 : Nat) : Int)).toNat = n := by
    rw [Int.emod_eq_of_lt (by omega) (by omega)]; simp
  exact this
theorem and_u32 {m n : Nat} (hm : m < 4294967296) (hn : n < 4294967296) : bitsA .and .u32 (m : Int) (n : Int) = ((m &&& n : Nat) : Int) := by
  show IntKind.u32.wrap ((BitVec.ofInt 32 (m : Int) &&& BitVec.ofInt 32 (n : Int)).toNat : Int) = _
  rw [BitVec.toNat_and, nat32 hm, nat32 hn]
  have : m &&& n ≤ m := Nat.and_le_left
  exact w_u32 (by omega)
theorem or_u32 {m n : Nat} (hm : m < 4294967296) (hn : n < 4294967296) : bitsA .or .u32 (m : Int) (n : Int) = ((m ||| n : Nat) : Int) := by
  show IntKind.u32.wrap ((BitVec.ofInt 32 (m : Int) ||| BitVec.ofInt 32 (n : Int)).toNat : Int) = _
  rw [BitVec.toNat_or, nat32 hm, nat32 hn]
  have : m ||| n < 2 ^ 32 := Nat.or_lt_two_pow (by omega) (by omega)
  exact w_u32 (by omega)
theorem and255 {a : Int} (h : 0 ≤ a ∧ a < 4294967296) : bitsA .and .u32 a 255 = a % 256 := by
  obtain ⟨n, rfl⟩ := Int.eq_ofNat_of_zero_le h.1
  have := and_u32 (m := n) (n := 255) (by omega) (by decide)
  have e : n &&& 255 = n % 256 := Nat.and_two_pow_sub_one_eq_mod n 8
  rw [e] at this
  rw [show ((255 : Nat) : Int) = 255 from rfl] at this
  rw [this]; omega
theorem pop32 (x : Nat) : pop x 32 = pop (x / 16777216) 8 + pop (x / 65536 % 256) 8 + pop (x / 256 % 256) 8 + pop (x % 256) 8 := by
  have e1 : pop x 32 = pop x 8 + pop (x >>> 8) 24 := pop_add x 8 24
  have e2 : pop (x >>> 8) 24 = pop (x >>> 8) 8 + pop (x >>> 8 >>> 8) 16 := pop_add _ 8 16
  have e3 : pop (x >>> 8 >>> 8) 16 = pop (x >>> 8 >>> 8) 8 + pop (x >>> 8 >>> 8 >>> 8) 8 := pop_add _ 8 8
  have m : ∀ y, pop (y % 256) 8 = pop y 8 := fun y => pop_mod y 8
  rw [m, m, m, e1, e2, e3]
  simp only [Nat.shiftRight_eq_div_pow, Nat.div_div_eq_div_mul, Nat.reducePow, Nat.reduceMul]
  omega

section
variable {C : Ctx}
theorem OnesCount_spec (hC : Has C T102) {x : Nat} {h : Heap} (hx : x < 4294967296) : ACalls C 102 [.int .u32 (x : Nat)] h (fun r h' => r = .int .i64 (pop x 32 : Nat) ∧ h' = h) := by
  rw [pop32]
  have a1 := pop8_le (x / 16777216)
  have a2 := pop8_le (x / 65536 % 256)
  have a3 := pop8_le (x / 256 % 256)
  have a4 := pop8_le (x % 256)
  have t1 : ((x : Int) / 16777216).toNat = x / 16777216 := by omega
  have t2 : ((x : Int) / 65536 % 256).toNat = x / 65536 % 256 := by omega
  have t3 : ((x : Int) / 256 % 256).toNat = x / 256 % 256 := by omega
  have t4 : ((x : Int) % 256).toNat = x % 256 := by omega
  refine calls_intro (hC.body (by decide) tab102) (Nat.le_of_ble_eq_true rfl) ?_
  show wp C _ none B102.code _ _
  simp only [B102_eq]
  simp -implicitDefEqProofs (disch := first | assumption | decide | omega | (simp only [wpD1] <;> omega) | (simp only [wpD2] <;> assumption) | solve_by_elim [HSub.refl, HSub.push, HSub.reserve] | fail) only [↓wpPre, wpPost, wpPoly, Int.reduceToNat, Int.reducePow, Int.reduceMul, Int.reduceAdd, Int.reduceSub, Int.reduceNeg, Nat.reduceAdd, Nat.reduceMul, Nat.reducePow, Int.reduceLT, Int.reduceLE, Int.reduceEq, Nat.reduceEqDiff, opR_strIdx, str_pop, and255, t1, t2, t3, t4]
  omega

theorem Index_spec (hC : Has C T99) {v : AV} {l : List Int} {x : Int} {h : Heap} (hl : RI h v l) : ACalls C 99 [v, .int .i64 x] h (fun r h' => r = .int .i64 (idxI (fun y => x == y) l) ∧ h' = h) := by
  have hlt := hl.lt
  (refine calls_intro (hC.body (by decide) tab99) (Nat.le_of_ble_eq_true rfl) ?_); (show wp C _ none B99.code _ _); (simp only [B99]); simp -implicitDefEqProofs (disch := first | assumption | decide | omega | (simp only [wpD1] <;> omega) | (simp only [wpD2] <;> assumption) | solve_by_elim [HSub.refl, HSub.push, HSub.reserve] | fail) only [↓wpPre, wpPost, wpPoly, Int.reduceToNat, Int.reducePow, Int.reduceMul, Int.reduceAdd, Int.reduceSub, Int.reduceNeg, Nat.reduceAdd, Nat.reduceMul, Nat.reducePow, Int.reduceLT, Int.reduceLE, Int.reduceEq, Nat.reduceEqDiff, hl.len]
  refine wp_loopI (fun j t h' => h' = h ∧ t 0 = v ∧ t 1 = .int .i64 x ∧ t 7 = .int .i64 l.length ∧ ∃ i : Nat, t 8 = .int .i64 (i : Nat) ∧ i ≤ l.length ∧ (l.take i).any (fun y => x == y) = false ∧ j = l.length - i) ⟨rfl, rfl, rfl, rfl, 0, rfl, by omega, by simp, rfl⟩ ?_
  rintro j t h' ⟨hh, e0, e1, e7, i, e8, hi, hp, hj⟩
  subst hh
  simp -implicitDefEqProofs (disch := first | assumption | decide | omega | (simp only [wpD1] <;> omega) | (simp only [wpD2] <;> assumption) | solve_by_elim [HSub.refl, HSub.push, HSub.reserve] | fail) only [↓wpPre, wpPost, wpPoly, Int.reduceToNat, Int.reducePow, Int.reduceMul, Int.reduceAdd, Int.reduceSub, Int.reduceNeg, Nat.reduceAdd, Nat.reduceMul, Nat.reducePow, Int.reduceLT, Int.reduceLE, Int.reduceEq, Nat.reduceEqDiff, e7, e8]
  refine Br.by (fun c1 => ?_) (fun c1 => ?_)
  · have hi' : i < l.length := by omega
    simp -implicitDefEqProofs (disch := first | assumption | decide | omega | (simp only [wpD1] <;> omega) | (simp only [wpD2] <;> assumption) | solve_by_elim [HSub.refl, HSub.push, HSub.reserve] | fail) only [↓wpPre, wpPost, wpPoly, Int.reduceToNat, Int.reducePow, Int.reduceMul, Int.reduceAdd, Int.reduceSub, Int.reduceNeg, Nat.reduceAdd, Nat.reduceMul, Nat.reducePow, Int.reduceLT, Int.reduceLE, Int.reduceEq, Nat.reduceEqDiff, e0, e1, e8, hl.idx, hl.load]
    refine Br.by (fun c2 => ?_) (fun c2 => ?_)
    · have := findIdx_of hi' hp (by simpa using c2)
      simp -implicitDefEqProofs (disch := first | assumption | decide | omega | (simp only [wpD1] <;> omega) | (simp only [wpD2] <;> assumption) | solve_by_elim [HSub.refl, HSub.push, HSub.reserve] | fail) only [↓wpPre, wpPost, wpPoly, Int.reduceToNat, Int.reducePow, Int.reduceMul, Int.reduceAdd, Int.reduceSub, Int.reduceNeg, Nat.reduceAdd, Nat.reduceMul, Nat.reducePow, Int.reduceLT, Int.reduceLE, Int.reduceEq, Nat.reduceEqDiff, idxI, if_pos this.1, this.2]
    · simp -implicitDefEqProofs (disch := first | assumption | decide | omega | (simp only [wpD1] <;> omega) | (simp only [wpD2] <;> assumption) | solve_by_elim [HSub.refl, HSub.push, HSub.reserve] | fail) only [↓wpPre, wpPost, wpPoly, Int.reduceToNat, Int.reducePow, Int.reduceMul, Int.reduceAdd, Int.reduceSub, Int.reduceNeg, Nat.reduceAdd, Nat.reduceMul, Nat.reducePow, Int.reduceLT, Int.reduceLE, Int.reduceEq, Nat.reduceEqDiff, e0, e1, e7, e8]
      exact ⟨_, ⟨i + 1, by simp, by omega, any_take_succ hi' hp (by simpa using c2), rfl⟩, by omega⟩
  · have : i = l.length := by omega
    subst this
    rw [List.take_of_length_le (Nat.le_refl _)] at hp
    simp -implicitDefEqProofs (disch := first | assumption | decide | omega | (simp only [wpD1] <;> omega) | (simp only [wpD2] <;> assumption) | solve_by_elim [HSub.refl, HSub.push, HSub.reserve] | fail) only [↓wpPre, wpPost, wpPoly, Int.reduceToNat, Int.reducePow, Int.reduceMul, Int.reduceAdd, Int.reduceSub, Int.reduceNeg, Nat.reduceAdd, Nat.reduceMul, Nat.reducePow, Int.reduceLT, Int.reduceLE, Int.reduceEq, Nat.reduceEqDiff, idxI, hp]
    simp
theorem Contains_spec (hC : Has C T89) {v : AV} {l : List Int} {x : Int} {h : Heap} (hl : RI h v l) : ACalls C 89 [v, .int .i64 x] h (fun r h' => r = .bool (l.any fun y => x == y) ∧ h' = h) := by
  (refine calls_intro (hC.body (by decide) tab89) (Nat.le_of_ble_eq_true rfl) ?_); (show wp C _ none B89.code _ _); (simp only [B89]); simp -implicitDefEqProofs (disch := first | assumption | decide | omega | (simp only [wpD1] <;> omega) | (simp only [wpD2] <;> assumption) | solve_by_elim [HSub.refl, HSub.push, HSub.reserve] | fail) only [↓wpPre, wpPost, wpPoly, Int.reduceToNat, Int.reducePow, Int.reduceMul, Int.reduceAdd, Int.reduceSub, Int.reduceNeg, Nat.reduceAdd, Nat.reduceMul, Nat.reducePow, Int.reduceLT, Int.reduceLE, Int.reduceEq, Nat.reduceEqDiff]
  refine ACallsK.eq (Index_spec (hC.sub (T' := T99) (by decide)) hl) ?_
  simp -implicitDefEqProofs (disch := first | assumption | decide | omega | (simp only [wpD1] <;> omega) | (simp only [wpD2] <;> assumption) | solve_by_elim [HSub.refl, HSub.push, HSub.reserve] | fail) only [↓wpPre, wpPost, wpPoly, Int.reduceToNat, Int.reducePow, Int.reduceMul, Int.reduceAdd, Int.reduceSub, Int.reduceNeg, Nat.reduceAdd, Nat.reduceMul, Nat.reducePow, Int.reduceLT, Int.reduceLE, Int.reduceEq, Nat.reduceEqDiff]
  cases hx : l.any (fun y => x == y) with
  | true => simp [idxI_nonneg, hx]
  | false => simp [idxI_nonneg, hx]
end
end Go.Ae

/- Registers of the program and checks of the reference. -/
set_option linter.unusedSimpArgs false
set_option linter.unusedVariables false
namespace Go.Ae

def RegGood (n : Int) (ts w : List Int) : Prop := (1 ≤ ts.length ∧ ts.getD 0 0 = 0 ∧ ∀ j, j < ts.length → tapOk n ts j) ∧ (w.length : Int) = n ∧ (w.any fun x => !(x == 0 || x == 1)) = false
instance (n : Int) (ts w : List Int) : Decidable (RegGood n ts w) := by unfold RegGood; infer_instance
def regErr (n : Int) (ts w : List Int) : Int := if n < 2 ∨ 16 < n then 2 else if RegGood n ts w then 0 else 3
structure RegOk (n : Nat) (ts w : List Int) : Prop where
  n2 : 2 ≤ n
  n16 : n ≤ 16
  len : w.length = n
  bits : bit01 w
  t1 : 1 ≤ ts.length
  t0 : ts.getD 0 0 = 0
  taps : ∀ j, j < ts.length → tapOk n ts j
theorem regErr_ok {n : Int} {ts w : List Int} (h : regErr n ts w = 0) : ∃ m : Nat, n = m ∧ RegOk m ts w := by
  unfold regErr at h
  split at h
  · cases h
  · split at h
    · rename_i h1 h2
      refine ⟨w.length, h2.2.1.symm, ?_⟩
      obtain ⟨⟨a1, a2, a3⟩, b1, b2⟩ := h2
      refine ⟨by omega, by omega, rfl, fun x hx => ?_, a1, a2, by rw [b1]; exact a3⟩
      have := List.any_eq_false.1 b2 x hx
      simp only [Bool.not_eq_true, Bool.not_eq_false', Bool.or_eq_true, beq_iff_eq] at this
      exact this
    · cases h
def madeR (n : Int) (ts w : List Int) : AV := if regErr n ts w = 0 then .tuple [.agg [.int .i64 n, .int .u32 (packL w), .int .u32 (maskT ts)], .int .i64 0] else .tuple [.agg [.int .i64 0, .int .u32 0, .int .u32 0], .int .i64 (regErr n ts w)]
def bad01 (x : Int) : Bool := !(x == 0 || x == 1)
theorem pow_le16 {k : Nat} (h : k ≤ 16) : 2 ^ k ≤ 65536 := Nat.pow_le_pow_right (by decide) h
theorem cast_pow (k : Nat) : (2 : Int) ^ k = ((2 ^ k : Nat) : Int) := by simp
theorem maskT_take_lt {n : Nat} {ts : List Int} (h : ∀ j, j < ts.length → tapOk n ts j) (i : Nat) : maskT (ts.take i) < 2 ^ n := by
  refine maskT_lt _ _ Nat.one_le_two_pow (fun t ht => ?_)
  obtain ⟨j, hj, rfl⟩ := List.mem_take_iff_getElem.1 ht
  have hj' : j < ts.length := by omega
  have h1 := (h j hj').2
  have h2 := tap_nonneg h hj'
  have e : ts[j] = ts.getD j 0 := by simp [hj']
  rw [e]; omega
section
variable {C : Ctx}
set_option maxHeartbeats 1000000 in
theorem made_spec (hC : Has C T92) {n : Int} {v1 v2 : AV} {ts w : List Int} {h : Heap} (h1 : RI h v1 ts) (h2 : RI h v2 w) : ACalls C 92 [.int .i64 n, v1, v2] h (fun r h' => r = madeR n ts w ∧ h' = h) := by
  have l1 := h1.lt
  have l2 := h2.lt
  refine ACalls.gc0 (P := fun r h' => r = madeR n ts w ∧ HSub h h') ?_ (fun r h' hp => ⟨by rw [hp.1]; unfold madeR; split <;> exact free_tuple (by simp [AV.free, AV.bel, AV.bels]), hp.2, hp.1, rfl⟩)
  have pe : regErr n ts w = if n < 2 ∨ 16 < n then 2 else if RegGood n ts w then 0 else 3 := rfl
  have fin : ∀ e, regErr n ts w = e → e ≠ 0 → AV.tuple [.agg [.int .i64 0, .int .u32 0, .int .u32 0], .int .i64 e] = madeR n ts w := fun e h0 he => by unfold madeR; rw [if_neg (by rw [h0]; exact he), h0]
  by_cases c0 : n < 2 ∨ 16 < n
  · rw [if_pos c0] at pe
    (refine calls_intro (hC.body (by decide) tab92) (Nat.le_of_ble_eq_true rfl) ?_); (show wp C _ none B92.code _ _); (simp only [B92]); simp -implicitDefEqProofs (disch := first | assumption | decide | omega | (simp only [wpD1] <;> omega) | (simp only [wpD2] <;> assumption) | solve_by_elim [HSub.refl, HSub.push, HSub.reserve] | fail) only [↓wpPre, wpPost, wpPoly, Int.reduceToNat, Int.reducePow, Int.reduceMul, Int.reduceAdd, Int.reduceSub, Int.reduceNeg, Nat.reduceAdd, Nat.reduceMul, Nat.reducePow, Int.reduceLT, Int.reduceLE, Int.reduceEq, Nat.reduceEqDiff]
    (repeat' (first | (refine Br.by (fun _ => ?_) (fun _ => ?_)) | (simp -implicitDefEqProofs (disch := first | assumption | decide | omega | (simp only [wpD1] <;> omega) | (simp only [wpD2] <;> assumption) | solve_by_elim [HSub.refl, HSub.push, HSub.reserve] | fail) only [↓wpPre, wpPost, wpPoly, Int.reduceToNat, Int.reducePow, Int.reduceMul, Int.reduceAdd, Int.reduceSub, Int.reduceNeg, Nat.reduceAdd, Nat.reduceMul, Nat.reducePow, Int.reduceLT, Int.reduceLE, Int.reduceEq, Nat.reduceEqDiff])))
    all_goals first | exact ⟨fin 2 pe (by decide), (HSub.push1 _ _)⟩ | omega
  rw [if_neg c0] at pe
  by_cases c1 : ts.length = 0
  · rw [if_neg (fun hg => by have := hg.1.1; omega)] at pe
    (refine calls_intro (hC.body (by decide) tab92) (Nat.le_of_ble_eq_true rfl) ?_); (show wp C _ none B92.code _ _); (simp only [B92]); simp -implicitDefEqProofs (disch := first | assumption | decide | omega | (simp only [wpD1] <;> omega) | (simp only [wpD2] <;> assumption) | solve_by_elim [HSub.refl, HSub.push, HSub.reserve] | fail) only [↓wpPre, wpPost, wpPoly, Int.reduceToNat, Int.reducePow, Int.reduceMul, Int.reduceAdd, Int.reduceSub, Int.reduceNeg, Nat.reduceAdd, Nat.reduceMul, Nat.reducePow, Int.reduceLT, Int.reduceLE, Int.reduceEq, Nat.reduceEqDiff, h1.len]
    exact ⟨fin 3 pe (by decide), (HSub.push1 _ _)⟩
  by_cases c2 : ts.getD 0 0 ≠ 0
  · rw [if_neg (fun hg => c2 hg.1.2.1)] at pe
    (refine calls_intro (hC.body (by decide) tab92) (Nat.le_of_ble_eq_true rfl) ?_); (show wp C _ none B92.code _ _); (simp only [B92]); simp -implicitDefEqProofs (disch := first | assumption | decide | omega | (simp only [wpD1] <;> omega) | (simp only [wpD2] <;> assumption) | solve_by_elim [HSub.refl, HSub.push, HSub.reserve] | fail) only [↓wpPre, wpPost, wpPoly, Int.reduceToNat, Int.reducePow, Int.reduceMul, Int.reduceAdd, Int.reduceSub, Int.reduceNeg, Nat.reduceAdd, Nat.reduceMul, Nat.reducePow, Int.reduceLT, Int.reduceLE, Int.reduceEq, Nat.reduceEqDiff, h1.len, h1.idx, h1.loadC]
    exact ⟨fin 3 pe (by decide), (HSub.push1 _ _)⟩
  by_cases c3 : (w.length : Int) ≠ n
  · rw [if_neg (fun hg => c3 hg.2.1)] at pe
    (refine calls_intro (hC.body (by decide) tab92) (Nat.le_of_ble_eq_true rfl) ?_); (show wp C _ none B92.code _ _); (simp only [B92]); simp -implicitDefEqProofs (disch := first | assumption | decide | omega | (simp only [wpD1] <;> omega) | (simp only [wpD2] <;> assumption) | solve_by_elim [HSub.refl, HSub.push, HSub.reserve] | fail) only [↓wpPre, wpPost, wpPoly, Int.reduceToNat, Int.reducePow, Int.reduceMul, Int.reduceAdd, Int.reduceSub, Int.reduceNeg, Nat.reduceAdd, Nat.reduceMul, Nat.reducePow, Int.reduceLT, Int.reduceLE, Int.reduceEq, Nat.reduceEqDiff, h1.len, h1.idx, h1.loadC, h2.len]
    exact ⟨fin 3 pe (by decide), (HSub.push1 _ _)⟩
  have c2' : ts.getD 0 0 = 0 := Decidable.not_not.1 c2
  have c3' : (w.length : Int) = n := Decidable.not_not.1 c3
  have hz : RI (h.push (.cells [.int .i64 0, .int .u32 0, .int .u32 0] true 0)) v1 ts := h1.mono (HSub.push1 _ _)
  (refine calls_intro (hC.body (by decide) tab92) (Nat.le_of_ble_eq_true rfl) ?_); (show wp C _ none B92.code _ _); (simp only [B92]); simp -implicitDefEqProofs (disch := first | assumption | decide | omega | (simp only [wpD1] <;> omega) | (simp only [wpD2] <;> assumption) | solve_by_elim [HSub.refl, HSub.push, HSub.reserve] | fail) only [↓wpPre, wpPost, wpPoly, Int.reduceToNat, Int.reducePow, Int.reduceMul, Int.reduceAdd, Int.reduceSub, Int.reduceNeg, Nat.reduceAdd, Nat.reduceMul, Nat.reducePow, Int.reduceLT, Int.reduceLE, Int.reduceEq, Nat.reduceEqDiff, h1.len, h1.idx, h1.loadC, h2.len, c2']
  refine wp_loopI (fun j t h' => ∃ i : Nat, h' = (h.push (.cells [.int .i64 0, .int .u32 0, .int .u32 0] true 0)).push (.cells [.int .i64 n, .int .u32 0, .int .u32 (maskT (ts.take i) : Nat)] true 0) ∧ t 0 = .int .i64 n ∧ t 2 = v2 ∧ t 6 = .ptr h.size 0 ∧ t 8 = .ptr (h.size + 1) 0 ∧ t 9 = .int .i64 (if i = 0 then -1 else ts.getD (i - 1) 0) ∧
      t 39 = v1 ∧ t 40 = .int .i64 ts.length ∧ t 41 = .int .i64 (i : Nat) ∧ i ≤ ts.length ∧ (∀ q, q < i → tapOk n ts q) ∧ j = ts.length - i) (j0 := ts.length)
    ⟨0, rfl, rfl, rfl, rfl, rfl, rfl, rfl, rfl, rfl, by omega, by omega, rfl⟩ ?_
  rintro j t h' ⟨i, rfl, e0, e2, e6, e8, e9, e39, e40, e41, hi, hok, hj⟩
  simp -implicitDefEqProofs (disch := first | assumption | decide | omega | (simp only [wpD1] <;> omega) | (simp only [wpD2] <;> assumption) | solve_by_elim [HSub.refl, HSub.push, HSub.reserve] | fail) only [↓wpPre, wpPost, wpPoly, Int.reduceToNat, Int.reducePow, Int.reduceMul, Int.reduceAdd, Int.reduceSub, Int.reduceNeg, Nat.reduceAdd, Nat.reduceMul, Nat.reducePow, Int.reduceLT, Int.reduceLE, Int.reduceEq, Nat.reduceEqDiff, e40, e41]
  refine Br.by (fun c => ?_) (fun c => ?_)
  · have hi' : i < ts.length := by omega
    have hsub : HSub h ((h.push (.cells [.int .i64 0, .int .u32 0, .int .u32 0] true 0)).push (.cells [.int .i64 n, .int .u32 0, .int .u32 (maskT (ts.take i) : Nat)] true 0)) := (HSub.push1 _ _).push _
    by_cases ct : tapOk n ts i
    · have ct' := ct
      unfold tapOk at ct'
      have t0 : 0 ≤ ts.getD i 0 := by
        have h1 := ct'.1
        by_cases h0 : i = 0
        · rw [if_pos h0] at h1; omega
        · rw [if_neg h0] at h1
          have hp : ∀ j, j ≤ i - 1 → -1 < ts.getD j 0 := by
            intro j
            induction j with
            | zero => intro _; omega
            | succ j ih =>
              intro hj
              have := (hok (j + 1) (by omega)).1
              rw [if_neg (by omega), show j + 1 - 1 = j by omega] at this
              have := ih (by omega)
              omega
          have := hp (i - 1) (Nat.le_refl _)
          omega
      have hm : maskT (ts.take i) < 65536 := by
        have h1 := maskT_lt (n := 16) (ts.take i) 0 (by decide) (fun x hx => by
          obtain ⟨q, hq, rfl⟩ := List.mem_take_iff_getElem.1 hx
          have hq' : q < ts.length := by omega
          have h2 := (hok q (by omega)).2
          have e : ts[q] = ts.getD q 0 := by simp [hq']
          rw [e]; omega)
        exact h1
      have hpw := pow_le16 (k := (ts.getD i 0).toNat) (by omega)
      have ec := cast_pow (ts.getD i 0).toNat
      have em : maskT (ts.take (i + 1)) = maskT (ts.take i) ||| 2 ^ (ts.getD i 0).toNat := by rw [take_succ_getD hi', maskT_snoc]
      have hor := or_u32 (m := maskT (ts.take i)) (n := 2 ^ (ts.getD i 0).toNat) (by omega) (by omega)
      rw [← em] at hor
      have hlast : ¬ ts.getD i 0 ≤ (if i = 0 then -1 else ts.getD (i - 1) 0) := by omega
      generalize hP : 2 ^ (ts.getD i 0).toNat = P at hpw ec hor
      simp -implicitDefEqProofs (disch := first | assumption | decide | omega | (simp only [wpD1] <;> omega) | (simp only [wpD2] <;> assumption) | solve_by_elim [HSub.refl, HSub.push, HSub.reserve] | fail) only [↓wpPre, wpPost, wpPoly, Int.reduceToNat, Int.reducePow, Int.reduceMul, Int.reduceAdd, Int.reduceSub, Int.reduceNeg, Nat.reduceAdd, Nat.reduceMul, Nat.reducePow, Int.reduceLT, Int.reduceLE, Int.reduceEq, Nat.reduceEqDiff, e0, e2, e6, e8, e9, e39, e40, e41, h1.idx, h1.loadC, Int.one_mul, ec, hor]
      exact ⟨_, ⟨i + 1, rfl, by simp, by simp, by omega, fun q hq => by
        by_cases e : q = i
        · subst e; exact ct
        · exact hok q (by omega), rfl⟩, by omega⟩
    · have hbad : ¬ RegGood n ts w := fun hg => ct (hg.1.2.2 i hi')
      rw [if_neg hbad] at pe
      unfold tapOk at ct
      by_cases cl : ts.getD i 0 ≤ (if i = 0 then -1 else ts.getD (i - 1) 0)
      · simp -implicitDefEqProofs (disch := first | assumption | decide | omega | (simp only [wpD1] <;> omega) | (simp only [wpD2] <;> assumption) | solve_by_elim [HSub.refl, HSub.push, HSub.reserve] | fail) only [↓wpPre, wpPost, wpPoly, Int.reduceToNat, Int.reducePow, Int.reduceMul, Int.reduceAdd, Int.reduceSub, Int.reduceNeg, Nat.reduceAdd, Nat.reduceMul, Nat.reducePow, Int.reduceLT, Int.reduceLE, Int.reduceEq, Nat.reduceEqDiff, e0, e6, e9, e39, e41, h1.idx, h1.loadC]
        exact ⟨fin 3 pe (by decide), (HSub.push1 _ _).push _⟩
      · simp -implicitDefEqProofs (disch := first | assumption | decide | omega | (simp only [wpD1] <;> omega) | (simp only [wpD2] <;> assumption) | solve_by_elim [HSub.refl, HSub.push, HSub.reserve] | fail) only [↓wpPre, wpPost, wpPoly, Int.reduceToNat, Int.reducePow, Int.reduceMul, Int.reduceAdd, Int.reduceSub, Int.reduceNeg, Nat.reduceAdd, Nat.reduceMul, Nat.reducePow, Int.reduceLT, Int.reduceLE, Int.reduceEq, Nat.reduceEqDiff, e0, e6, e9, e39, e41, h1.idx, h1.loadC]
        exact ⟨fin 3 pe (by decide), (HSub.push1 _ _).push _⟩
  · have : i = ts.length := by omega
    subst this
    rw [List.take_length]
    have hmm : (maskT ts : Int) = (maskT ts : Int) := rfl
    simp -implicitDefEqProofs (disch := first | assumption | decide | omega | (simp only [wpD1] <;> omega) | (simp only [wpD2] <;> assumption) | solve_by_elim [HSub.refl, HSub.push, HSub.reserve] | fail) only [↓wpPre, wpPost, wpPoly, Int.reduceToNat, Int.reducePow, Int.reduceMul, Int.reduceAdd, Int.reduceSub, Int.reduceNeg, Nat.reduceAdd, Nat.reduceMul, Nat.reducePow, Int.reduceLT, Int.reduceLE, Int.reduceEq, Nat.reduceEqDiff, e2, h2.len]
    refine wp_loopI (fun j u h' => ∃ i : Nat, h' = (h.push (.cells [.int .i64 0, .int .u32 0, .int .u32 0] true 0)).push (.cells [.int .i64 n, .int .u32 (packL (w.take i) : Nat), .int .u32 (maskT ts : Nat)] true 0) ∧ u 6 = .ptr h.size 0 ∧ u 8 = .ptr (h.size + 1) 0 ∧
      u 62 = v2 ∧ u 63 = .int .i64 w.length ∧ u 64 = .int .i64 (i : Nat) ∧ i ≤ w.length ∧ bit01 (w.take i) ∧ j = w.length - i) (j0 := w.length)
      ⟨0, rfl, e6, e8, rfl, rfl, rfl, by omega, fun x hx => by simp at hx, rfl⟩ ?_
    rintro j u h' ⟨i, rfl, f6, f8, f62, f63, f64, hi, hbt, hj⟩
    simp -implicitDefEqProofs (disch := first | assumption | decide | omega | (simp only [wpD1] <;> omega) | (simp only [wpD2] <;> assumption) | solve_by_elim [HSub.refl, HSub.push, HSub.reserve] | fail) only [↓wpPre, wpPost, wpPoly, Int.reduceToNat, Int.reducePow, Int.reduceMul, Int.reduceAdd, Int.reduceSub, Int.reduceNeg, Nat.reduceAdd, Nat.reduceMul, Nat.reducePow, Int.reduceLT, Int.reduceLE, Int.reduceEq, Nat.reduceEqDiff, f63, f64]
    refine Br.by (fun c => ?_) (fun c => ?_)
    · have hi' : i < w.length := by omega
      by_cases cb : w.getD i 0 = 0 ∨ w.getD i 0 = 1
      · have hlt := packL_lt hbt
        have hl : (w.take i).length = i := by simp; omega
        rw [hl] at hlt
        have hpw := pow_le16 (k := i) (by omega)
        have ec := cast_pow i
        have hb1 : bit01 (w.take (i + 1)) := fun x hx => by
          rw [take_succ_getD hi'] at hx
          rcases List.mem_append.1 hx with hx | hx
          · exact hbt x hx
          · rw [List.mem_singleton.1 hx]; exact cb
        have es : packL (w.take i) ||| 2 ^ i * (w.getD i 0).toNat = packL (w.take (i + 1)) := by
          rw [take_succ_getD hi', packL_snoc, hl, Nat.or_comm, ← Nat.two_pow_add_eq_or_of_lt hlt, Nat.add_comm]
        generalize hP : 2 ^ i = P at hlt hpw ec es
        have e4 : w.getD i 0 * (P : Int) = ((P * (w.getD i 0).toNat : Nat) : Int) := by rcases cb with e | e <;> rw [e] <;> simp
        have e5 : P * (w.getD i 0).toNat ≤ 65536 := by rcases cb with e | e <;> rw [e] <;> simp <;> omega
        have hor := or_u32 (m := packL (w.take i)) (n := P * (w.getD i 0).toNat) (by omega) (by omega)
        rw [es] at hor
        have cb2 : ¬ (w.getD i 0 ≠ 0 ∧ w.getD i 0 ≠ 1) := by omega
        rcases cb with cb | cb
        · simp -implicitDefEqProofs (disch := first | assumption | decide | omega | (simp only [wpD1] <;> omega) | (simp only [wpD2] <;> assumption) | solve_by_elim [HSub.refl, HSub.push, HSub.reserve] | fail) only [↓wpPre, wpPost, wpPoly, Int.reduceToNat, Int.reducePow, Int.reduceMul, Int.reduceAdd, Int.reduceSub, Int.reduceNeg, Nat.reduceAdd, Nat.reduceMul, Nat.reducePow, Int.reduceLT, Int.reduceLE, Int.reduceEq, Nat.reduceEqDiff, f6, f8, f62, f63, f64, h2.idx, h2.loadC, ec, e4, hor]
          exact ⟨_, ⟨i + 1, rfl, by simp, by omega, hb1, rfl⟩, by omega⟩
        · simp -implicitDefEqProofs (disch := first | assumption | decide | omega | (simp only [wpD1] <;> omega) | (simp only [wpD2] <;> assumption) | solve_by_elim [HSub.refl, HSub.push, HSub.reserve] | fail) only [↓wpPre, wpPost, wpPoly, Int.reduceToNat, Int.reducePow, Int.reduceMul, Int.reduceAdd, Int.reduceSub, Int.reduceNeg, Nat.reduceAdd, Nat.reduceMul, Nat.reducePow, Int.reduceLT, Int.reduceLE, Int.reduceEq, Nat.reduceEqDiff, f6, f8, f62, f63, f64, h2.idx, h2.loadC, ec, e4, hor]
          exact ⟨_, ⟨i + 1, rfl, by simp, by omega, hb1, rfl⟩, by omega⟩
      · have hbad : ¬ RegGood n ts w := fun hg => by
          have := List.any_eq_false.1 hg.2.2 _ (getD_mem hi')
          simp only [Bool.not_eq_true, Bool.not_eq_false', Bool.or_eq_true, beq_iff_eq] at this
          exact cb this
        rw [if_neg hbad] at pe
        simp -implicitDefEqProofs (disch := first | assumption | decide | omega | (simp only [wpD1] <;> omega) | (simp only [wpD2] <;> assumption) | solve_by_elim [HSub.refl, HSub.push, HSub.reserve] | fail) only [↓wpPre, wpPost, wpPoly, Int.reduceToNat, Int.reducePow, Int.reduceMul, Int.reduceAdd, Int.reduceSub, Int.reduceNeg, Nat.reduceAdd, Nat.reduceMul, Nat.reducePow, Int.reduceLT, Int.reduceLE, Int.reduceEq, Nat.reduceEqDiff, f6, f62, f64, h2.idx, h2.loadC]
        exact ⟨fin 3 pe (by decide), (HSub.push1 _ _).push _⟩
    · have : i = w.length := by omega
      subst this
      rw [List.take_length] at hbt ⊢
      have hgood : RegGood n ts w := ⟨⟨by omega, c2', hok⟩, c3', List.any_eq_false.2 fun x hx => by
        simp only [Bool.not_eq_true, Bool.not_eq_false', Bool.or_eq_true, beq_iff_eq]; exact hbt x hx⟩
      rw [if_pos hgood] at pe
      simp -implicitDefEqProofs (disch := first | assumption | decide | omega | (simp only [wpD1] <;> omega) | (simp only [wpD2] <;> assumption) | solve_by_elim [HSub.refl, HSub.push, HSub.reserve] | fail) only [↓wpPre, wpPost, wpPoly, Int.reduceToNat, Int.reducePow, Int.reduceMul, Int.reduceAdd, Int.reduceSub, Int.reduceNeg, Nat.reduceAdd, Nat.reduceMul, Nat.reducePow, Int.reduceLT, Int.reduceLE, Int.reduceEq, Nat.reduceEqDiff, f6, f8]
      refine ⟨by unfold madeR; rw [if_pos pe], ?_⟩
      exact (HSub.push1 _ _).push _
end
end Go.Ae

/- Sequences of the program's registers. -/
set_option linter.unusedSimpArgs false
set_option linter.unusedVariables false
namespace Go.Ae

theorem pop_le (x : Nat) : ∀ n, pop x n ≤ n
  | 0 => Nat.le_refl _
  | n + 1 => by
    have := pop_le x n
    have h2 : bitN x n ≤ 1 := by unfold bitN; cases x.testBit n <;> simp
    unfold pop at *
    simp only [bsum]; omega
theorem RegOk.w1 {n : Nat} {ts w : List Int} (R : RegOk n ts w) : 1 ≤ w.length := by have := R.n2; have := R.len; omega
theorem RegOk.pack_lt {n : Nat} {ts w : List Int} (R : RegOk n ts w) (k : Nat) : packL (winW ts w k) < 65536 := by
  have h1 := packL_lt (winW_01 (ts := ts) R.bits k)
  rw [winW_length R.w1, R.len] at h1
  have := pow_le16 R.n16
  omega
theorem RegOk.mask_lt {n : Nat} {ts w : List Int} (R : RegOk n ts w) : maskT ts < 65536 := by
  have h1 := maskT_take_lt R.taps ts.length
  rw [List.take_length] at h1
  have := pow_le16 R.n16
  omega
theorem RegOk.step {n : Nat} {ts w : List Int} (R : RegOk n ts w) (k : Nat) : packL (winW ts w k) / 2 ||| 2 ^ (n - 1) * (xorT ts (winW ts w k)).toNat = packL (winW ts w (k + 1)) := by
  have h1 := packL_step (ts := ts) (w := winW ts w k) (by rw [winW_length R.w1]; exact R.w1) (winW_01 R.bits k)
  have hlt := packL_lt (winW_01 (ts := ts) R.bits k)
  rw [winW_length R.w1, R.len] at h1 hlt
  have hn := R.n2
  have e : 2 ^ n = 2 ^ (n - 1) * 2 := by rw [← Nat.pow_succ]; congr 1; omega
  have hlt2 : packL (winW ts w k) / 2 < 2 ^ (n - 1) := by omega
  rw [Nat.or_comm, ← Nat.two_pow_add_eq_or_of_lt hlt2, Nat.add_comm, ← h1]; rfl
theorem RegOk.par {n : Nat} {ts w : List Int} (R : RegOk n ts w) (k : Nat) : ((pop (packL (winW ts w k) &&& maskT ts) 32 : Nat) : Int) % 2 = xorT ts (winW ts w k) := by
  have h1 := pop_mask (n := n) (by have := R.n16; omega) R.taps (winW_01 (ts := ts) R.bits k) ts.length (Nat.le_refl _)
  rw [List.take_length] at h1
  rw [← h1]; omega
theorem RegOk.bit {n : Nat} {ts w : List Int} (R : RegOk n ts w) (k : Nat) : ((packL (winW ts w k) &&& 1 : Nat) : Int) = seqB ts w k := by
  have h1 := packL_bit (winW_01 (ts := ts) R.bits k) 0
  have h2 := seqB_01 (ts := ts) R.bits k
  have h3 : packL (winW ts w k) &&& 1 = packL (winW ts w k) % 2 := Nat.and_one_is_mod _
  unfold seqB at *
  unfold bitN at h1
  rw [Nat.testBit_zero] at h1
  rw [h3]
  rcases h2 with h2 | h2
  · rw [h2] at h1 ⊢
    have : ¬ packL (winW ts w k) % 2 = 1 := fun e => by simp [e] at h1
    omega
  · rw [h2] at h1 ⊢
    have : packL (winW ts w k) % 2 = 1 := by
      by_cases e : packL (winW ts w k) % 2 = 1
      · exact e
      · simp [e] at h1
    omega

section
variable {C : Ctx}
theorem bits_spec (hC : Has C T95) {a b c : AV} {h : Heap} : ACalls C 95 [.agg [a, b, c]] h (fun r h' => r = .func 101 [] [.ptr h.size 0] ∧ h' = h.push (.cells [a, b, c] true 0)) := by
  (refine calls_intro (hC.body (by decide) tab95) (Nat.le_of_ble_eq_true rfl) ?_); (show wp C _ none B95.code _ _); (simp only [B95]); simp -implicitDefEqProofs (disch := first | assumption | decide | omega | (simp only [wpD1] <;> omega) | (simp only [wpD2] <;> assumption) | solve_by_elim [HSub.refl, HSub.push, HSub.reserve] | fail) only [↓wpPre, wpPost, wpPoly, Int.reduceToNat, Int.reducePow, Int.reduceMul, Int.reduceAdd, Int.reduceSub, Int.reduceNeg, Nat.reduceAdd, Nat.reduceMul, Nat.reducePow, Int.reduceLT, Int.reduceLE, Int.reduceEq, Nat.reduceEqDiff]

def regBox (n : Nat) (ts w : List Int) (k : Nat) : ABlk := .cells [.int .i64 (n : Nat), .int .u32 (packL (winW ts w k) : Nat), .int .u32 (maskT ts : Nat)] true 0
theorem bits1_iter (hC : Has C T101) {l b n : Nat} {ts w : List Int} {h : Heap} (R : RegOk n ts w) (J : Nat → Heap → Prop) (D : Heap → Prop) (M : Nat) (h0 : J 0 h) (hb : ∀ k h', J k h' → h'.get b = some (regBox n ts w k)) (hM : ∀ k h', J k h' → k ≤ M)
    (hy : ∀ k h', J k h' → AYield C l [.int .i64 (seqB ts w k), .int .u32 (packL (winW ts w (k + 1)) : Nat)] (h'.put b (regBox n ts w (k + 1))) (fun r h'' => (r = .bool true ∧ J (k + 1) h'') ∨ (r = .bool false ∧ D h''))) :
    ACalls C 101 [.yield l, .ptr b 0] h (fun _ h' => D h') := by
  (refine calls_intro (hC.body (by decide) tab101) (Nat.le_of_ble_eq_true rfl) ?_); (show wp C _ none B101.code _ _); (simp only [B101]); simp -implicitDefEqProofs (disch := first | assumption | decide | omega | (simp only [wpD1] <;> omega) | (simp only [wpD2] <;> assumption) | solve_by_elim [HSub.refl, HSub.push, HSub.reserve] | fail) only [↓wpPre, wpPost, wpPoly, Int.reduceToNat, Int.reducePow, Int.reduceMul, Int.reduceAdd, Int.reduceSub, Int.reduceNeg, Nat.reduceAdd, Nat.reduceMul, Nat.reducePow, Int.reduceLT, Int.reduceLE, Int.reduceEq, Nat.reduceEqDiff]
  refine wp_loopI (fun j t h' => ∃ k : Nat, J k h' ∧ t 0 = .yield l ∧ t 1 = .ptr b 0 ∧ j = M - k) (j0 := M) ⟨0, h0, rfl, rfl, rfl⟩ ?_
  rintro j t h' ⟨k, hJ, e0, e1, hj⟩
  have hbx := hb k h' hJ
  have hbl := Heap.lt_of_get hbx
  have hm := hM k h' hJ
  have p1 := R.pack_lt k
  have p2 := R.mask_lt
  have p3 : packL (winW ts w k) &&& maskT ts < 65536 := Nat.lt_of_le_of_lt Nat.and_le_left p1
  have a1 : bitsA .and .u32 (packL (winW ts w k) : Nat) 1 = seqB ts w k := by
    have := and_u32 (m := packL (winW ts w k)) (n := 1) (by omega) (by decide)
    rw [R.bit k] at this; exact this
  have a2 := and_u32 (m := packL (winW ts w k)) (n := maskT ts) (by omega) (by omega)
  have sq := seqB_01 (ts := ts) R.bits k
  have xq := xorT_01 ts (winW ts w k)
  have hpar := R.par k
  have hpl := pop_le (packL (winW ts w k) &&& maskT ts) 32
  have hpw := pow_le16 (k := n - 1) (by have := R.n16; omega)
  have ec := cast_pow (n - 1)
  have hst := R.step k
  have hn2 := R.n2
  have hn16 := R.n16
  have hor := or_u32 (m := packL (winW ts w k) / 2) (n := 2 ^ (n - 1) * (xorT ts (winW ts w k)).toNat) (by omega) (by rcases xq with e | e <;> rw [e] <;> simp <;> omega)
  rw [hst] at hor
  have e4 : xorT ts (winW ts w k) * ((2 ^ (n - 1) : Nat) : Int) = ((2 ^ (n - 1) * (xorT ts (winW ts w k)).toNat : Nat) : Int) := by rcases xq with e | e <;> rw [e] <;> simp
  have e5 : (2 ^ (n - 1) * (xorT ts (winW ts w k)).toNat : Nat) ≤ 65536 := by rcases xq with e | e <;> rw [e] <;> simp <;> omega
  have e6 : ((n : Int) - 1).toNat = n - 1 := by omega
  have e7 : (packL (winW ts w k) : Int) / 2 = ((packL (winW ts w k) / 2 : Nat) : Int) := by omega
  have hb2 : h'.get b = some (.cells [.int .i64 (n : Nat), .int .u32 (packL (winW ts w k) : Nat), .int .u32 (maskT ts : Nat)] true 0) := hbx
  simp -implicitDefEqProofs (disch := first | assumption | decide | omega | (simp only [wpD1] <;> omega) | (simp only [wpD2] <;> assumption) | solve_by_elim [HSub.refl, HSub.push, HSub.reserve] | fail) only [↓wpPre, wpPost, wpPoly, Int.reduceToNat, Int.reducePow, Int.reduceMul, Int.reduceAdd, Int.reduceSub, Int.reduceNeg, Nat.reduceAdd, Nat.reduceMul, Nat.reducePow, Int.reduceLT, Int.reduceLE, Int.reduceEq, Nat.reduceEqDiff, e0, e1, hb2, a1, a2]
  refine ACallsK.eq (OnesCount_spec (hC.sub (T' := T102) (by decide)) (by omega)) ?_
  simp -implicitDefEqProofs (disch := first | assumption | decide | omega | (simp only [wpD1] <;> omega) | (simp only [wpD2] <;> assumption) | solve_by_elim [HSub.refl, HSub.push, HSub.reserve] | fail) only [↓wpPre, wpPost, wpPoly, Int.reduceToNat, Int.reducePow, Int.reduceMul, Int.reduceAdd, Int.reduceSub, Int.reduceNeg, Nat.reduceAdd, Nat.reduceMul, Nat.reducePow, Int.reduceLT, Int.reduceLE, Int.reduceEq, Nat.reduceEqDiff, e0, e1, hb2, hpar, e6, ec, e4, e7, hor]
  refine AYieldK.of (hy k h' hJ) ?_
  rintro r h'' (⟨rfl, hJ'⟩ | ⟨rfl, hD⟩)
  · simp -implicitDefEqProofs (disch := first | assumption | decide | omega | (simp only [wpD1] <;> omega) | (simp only [wpD2] <;> assumption) | solve_by_elim [HSub.refl, HSub.push, HSub.reserve] | fail) only [↓wpPre, wpPost, wpPoly, Int.reduceToNat, Int.reducePow, Int.reduceMul, Int.reduceAdd, Int.reduceSub, Int.reduceNeg, Nat.reduceAdd, Nat.reduceMul, Nat.reducePow, Int.reduceLT, Int.reduceLE, Int.reduceEq, Nat.reduceEqDiff, e0, e1]
    have := hM _ _ hJ'
    exact ⟨_, ⟨k + 1, hJ', rfl⟩, by omega⟩
  · simp -implicitDefEqProofs (disch := first | assumption | decide | omega | (simp only [wpD1] <;> omega) | (simp only [wpD2] <;> assumption) | solve_by_elim [HSub.refl, HSub.push, HSub.reserve] | fail) only [↓wpPre, wpPost, wpPoly, Int.reduceToNat, Int.reducePow, Int.reduceMul, Int.reduceAdd, Int.reduceSub, Int.reduceNeg, Nat.reduceAdd, Nat.reduceMul, Nat.reducePow, Int.reduceLT, Int.reduceLE, Int.reduceEq, Nat.reduceEqDiff, e0]
    exact hD
end
end Go.Ae

/- Run and Period of the program. -/
set_option linter.unusedSimpArgs false
set_option linter.unusedVariables false
namespace Go.Ae
def firstP (ts w : List Int) (m k : Nat) : List Int := runL ts w k ++ List.replicate (m - k) 0
theorem firstP_length {ts w : List Int} {m k : Nat} (h : k ≤ m) : (firstP ts w m k).length = m := by simp [firstP, runL_length]; omega
theorem firstP_set {ts w : List Int} {m k : Nat} (h : k < m) : (firstP ts w m k).set k (seqB ts w k) = firstP ts w m (k + 1) := by
  unfold firstP
  have hl := runL_length ts w k
  rw [List.set_append_right _ _ (by omega), hl, Nat.sub_self, show m - k = m - (k + 1) + 1 by omega, List.replicate_succ, List.set_cons_zero, runL_succ, List.append_assoc]
  rfl
section
variable {C : Ctx}
set_option maxRecDepth 100000 in
set_option maxHeartbeats 2000000 in
theorem first_spec (hC : Has C T93) {n m : Nat} {ts w : List Int} {h : Heap} (R : RegOk n ts w) (hm : m ≤ 100000) :
    ACalls C 93 [.agg [.int .i64 (n : Nat), .int .u32 (packL w : Nat), .int .u32 (maskT ts : Nat)], .int .i64 (m : Nat)] h (fun r h' => Fresh h h' r (runL ts w m)) := by
  (refine calls_intro (hC.body (by decide) tab93) (Nat.le_of_ble_eq_true rfl) ?_); (show wp C _ none B93.code _ _); (simp only [B93]); simp -implicitDefEqProofs (disch := first | assumption | decide | omega | (simp only [wpD1] <;> omega) | (simp only [wpD2] <;> assumption) | solve_by_elim [HSub.refl, HSub.push, HSub.reserve] | fail) only [↓wpPre, wpPost, wpPoly, Int.reduceToNat, Int.reducePow, Int.reduceMul, Int.reduceAdd, Int.reduceSub, Int.reduceNeg, Nat.reduceAdd, Nat.reduceMul, Nat.reducePow, Int.reduceLT, Int.reduceLE, Int.reduceEq, Nat.reduceEqDiff]
  refine ACallsK.hide (fun H hH => ?_)
  have N : H.size = h.size + 4 := by rw [hH]; simp -implicitDefEqProofs (disch := first | assumption | decide | omega | (simp only [wpD1] <;> omega) | (simp only [wpD2] <;> assumption) | solve_by_elim [HSub.refl, HSub.push, HSub.reserve] | fail) only [↓wpPre, wpPost, wpPoly, Int.reduceToNat, Int.reducePow, Int.reduceMul, Int.reduceAdd, Int.reduceSub, Int.reduceNeg, Nat.reduceAdd, Nat.reduceMul, Nat.reducePow, Int.reduceLT, Int.reduceLE, Int.reduceEq, Nat.reduceEqDiff]
  have b3 : H.get (h.size + 1) = some (.cells [.int .i64 (m : Nat)] true 0) := by rw [hH]; simp -implicitDefEqProofs (disch := first | assumption | decide | omega | (simp only [wpD1] <;> omega) | (simp only [wpD2] <;> assumption) | solve_by_elim [HSub.refl, HSub.push, HSub.reserve] | fail) only [↓wpPre, wpPost, wpPoly, Int.reduceToNat, Int.reducePow, Int.reduceMul, Int.reduceAdd, Int.reduceSub, Int.reduceNeg, Nat.reduceAdd, Nat.reduceMul, Nat.reducePow, Int.reduceLT, Int.reduceLE, Int.reduceEq, Nat.reduceEqDiff]
  have b5 : H.get (h.size + 3) = some (.cells [.slice (h.size + 2) 0 0 (.known m)] true 0) := by rw [hH]; simp -implicitDefEqProofs (disch := first | assumption | decide | omega | (simp only [wpD1] <;> omega) | (simp only [wpD2] <;> assumption) | solve_by_elim [HSub.refl, HSub.push, HSub.reserve] | fail) only [↓wpPre, wpPost, wpPoly, Int.reduceToNat, Int.reducePow, Int.reduceMul, Int.reduceAdd, Int.reduceSub, Int.reduceNeg, Nat.reduceAdd, Nat.reduceMul, Nat.reducePow, Int.reduceLT, Int.reduceLE, Int.reduceEq, Nat.reduceEqDiff]
  have br : H.get (h.size + 2) = some (.cells (ints (List.replicate m 0)) true 0) := by rw [hH, ← ints_replicate]; simp -implicitDefEqProofs (disch := first | assumption | decide | omega | (simp only [wpD1] <;> omega) | (simp only [wpD2] <;> assumption) | solve_by_elim [HSub.refl, HSub.push, HSub.reserve] | fail) only [↓wpPre, wpPost, wpPoly, Int.reduceToNat, Int.reducePow, Int.reduceMul, Int.reduceAdd, Int.reduceSub, Int.reduceNeg, Nat.reduceAdd, Nat.reduceMul, Nat.reducePow, Int.reduceLT, Int.reduceLE, Int.reduceEq, Nat.reduceEqDiff]
  have hsH : HSub h H := by rw [hH]; exact (((HSub.push1 h _).push _).push _).push _
  clear hH
  refine ACallsK.eq (bits_spec (hC.sub (T' := T95) (by decide))) ?_
  simp -implicitDefEqProofs (disch := first | assumption | decide | omega | (simp only [wpD1] <;> omega) | (simp only [wpD2] <;> assumption) | solve_by_elim [HSub.refl, HSub.push, HSub.reserve] | fail) only [↓wpPre, wpPost, wpPoly, Int.reduceToNat, Int.reducePow, Int.reduceMul, Int.reduceAdd, Int.reduceSub, Int.reduceNeg, Nat.reduceAdd, Nat.reduceMul, Nat.reducePow, Int.reduceLT, Int.reduceLE, Int.reduceEq, Nat.reduceEqDiff]
  refine wpRange_none (D := fun h' => ∃ R, h'.get (H.size + 2) = some (.loop R) ∧ R.state = .done ∧ R.pend = some (.exit 0) ∧ HSub h h' ∧ h'.get (H.size + 1) = some (.defd true) ∧
      h'.get (h.size + 3) = some (.cells [.slice (h.size + 2) 0 m (.known m)] true 0) ∧ h'.get (h.size + 2) = some (.cells (ints (runL ts w m)) true 0) ∧ H.size + 3 ≤ h'.size) ?_ ?_
  · refine ACalls.hideLoop (fun Q hR => ?_)
    show ACalls C 101 [.yield (H.size + 2), .ptr H.size 0] _ _
    have rs : Q.state = .ready := by rw [hR]
    have rp : Q.pend = none := by rw [hR]
    have rb := loop_back rs rp
    refine bits1_iter (hC.sub (T' := T101) (by decide)) R (fun k h' => k ≤ m ∧ h'.get (H.size + 2) = some (.loop Q) ∧ h'.get H.size = some (regBox n ts w k) ∧ h'.get (H.size + 1) = some (.defd true) ∧ HSub h h' ∧ H.size + 3 ≤ h'.size ∧
      h'.get (h.size + 1) = some (.cells [.int .i64 (m : Nat)] true 0) ∧ h'.get (h.size + 3) = some (.cells [.slice (h.size + 2) 0 k (.known m)] true 0) ∧ h'.get (h.size + 2) = some (.cells (ints (firstP ts w m k)) true 0)) _ m ?_ ?_ ?_ ?_
    · refine ⟨by omega, ?_, ?_, ?_, ?_, ?_, ?_, ?_, ?_⟩
      · simp -implicitDefEqProofs (disch := first | assumption | decide | omega | (simp only [wpD1] <;> omega) | (simp only [wpD2] <;> assumption) | solve_by_elim [HSub.refl, HSub.push, HSub.reserve] | fail) only [↓wpPre, wpPost, wpPoly, Int.reduceToNat, Int.reducePow, Int.reduceMul, Int.reduceAdd, Int.reduceSub, Int.reduceNeg, Nat.reduceAdd, Nat.reduceMul, Nat.reducePow, Int.reduceLT, Int.reduceLE, Int.reduceEq, Nat.reduceEqDiff]
      · simp -implicitDefEqProofs (disch := first | assumption | decide | omega | (simp only [wpD1] <;> omega) | (simp only [wpD2] <;> assumption) | solve_by_elim [HSub.refl, HSub.push, HSub.reserve] | fail) only [↓wpPre, wpPost, wpPoly, Int.reduceToNat, Int.reducePow, Int.reduceMul, Int.reduceAdd, Int.reduceSub, Int.reduceNeg, Nat.reduceAdd, Nat.reduceMul, Nat.reducePow, Int.reduceLT, Int.reduceLE, Int.reduceEq, Nat.reduceEqDiff]
        rfl
      · simp -implicitDefEqProofs (disch := first | assumption | decide | omega | (simp only [wpD1] <;> omega) | (simp only [wpD2] <;> assumption) | solve_by_elim [HSub.refl, HSub.push, HSub.reserve] | fail) only [↓wpPre, wpPost, wpPoly, Int.reduceToNat, Int.reducePow, Int.reduceMul, Int.reduceAdd, Int.reduceSub, Int.reduceNeg, Nat.reduceAdd, Nat.reduceMul, Nat.reducePow, Int.reduceLT, Int.reduceLE, Int.reduceEq, Nat.reduceEqDiff]
      · exact ((hsH.push _).push _).push _
      · simp -implicitDefEqProofs (disch := first | assumption | decide | omega | (simp only [wpD1] <;> omega) | (simp only [wpD2] <;> assumption) | solve_by_elim [HSub.refl, HSub.push, HSub.reserve] | fail) only [↓wpPre, wpPost, wpPoly, Int.reduceToNat, Int.reducePow, Int.reduceMul, Int.reduceAdd, Int.reduceSub, Int.reduceNeg, Nat.reduceAdd, Nat.reduceMul, Nat.reducePow, Int.reduceLT, Int.reduceLE, Int.reduceEq, Nat.reduceEqDiff]
        omega
      · simp -implicitDefEqProofs (disch := first | assumption | decide | omega | (simp only [wpD1] <;> omega) | (simp only [wpD2] <;> assumption) | solve_by_elim [HSub.refl, HSub.push, HSub.reserve] | fail) only [↓wpPre, wpPost, wpPoly, Int.reduceToNat, Int.reducePow, Int.reduceMul, Int.reduceAdd, Int.reduceSub, Int.reduceNeg, Nat.reduceAdd, Nat.reduceMul, Nat.reducePow, Int.reduceLT, Int.reduceLE, Int.reduceEq, Nat.reduceEqDiff, b3]
      · simp -implicitDefEqProofs (disch := first | assumption | decide | omega | (simp only [wpD1] <;> omega) | (simp only [wpD2] <;> assumption) | solve_by_elim [HSub.refl, HSub.push, HSub.reserve] | fail) only [↓wpPre, wpPost, wpPoly, Int.reduceToNat, Int.reducePow, Int.reduceMul, Int.reduceAdd, Int.reduceSub, Int.reduceNeg, Nat.reduceAdd, Nat.reduceMul, Nat.reducePow, Int.reduceLT, Int.reduceLE, Int.reduceEq, Nat.reduceEqDiff, b5]
      · simp -implicitDefEqProofs (disch := first | assumption | decide | omega | (simp only [wpD1] <;> omega) | (simp only [wpD2] <;> assumption) | solve_by_elim [HSub.refl, HSub.push, HSub.reserve] | fail) only [↓wpPre, wpPost, wpPoly, Int.reduceToNat, Int.reducePow, Int.reduceMul, Int.reduceAdd, Int.reduceSub, Int.reduceNeg, Nat.reduceAdd, Nat.reduceMul, Nat.reducePow, Int.reduceLT, Int.reduceLE, Int.reduceEq, Nat.reduceEqDiff, br]
        simp [firstP, runL]
    · rintro k h' ⟨_, _, q, _⟩
      exact q
    · rintro k h' ⟨q, _⟩
      exact q
    · rintro k h' ⟨hk, hl, hw1, hd, hsub, hsz, q3, q5, qr⟩
      have hfl := firstP_length (ts := ts) (w := w) hk
      have hl2 : (h'.put H.size (regBox n ts w (k + 1))).get (H.size + 2) = some (.loop Q) := (get_put_ne (by omega)).trans hl
      refine yield_intro hl2 rs (by rw [hR]; rfl) ?_
      simp only [congrArg ALoop.nt hR, congrArg ALoop.t hR, congrArg ALoop.params hR, congrArg ALoop.assign hR, congrArg ALoop.body hR]
      simp -implicitDefEqProofs (disch := first | assumption | decide | omega | (simp only [wpD1] <;> omega) | (simp only [wpD2] <;> assumption) | solve_by_elim [HSub.refl, HSub.push, HSub.reserve] | fail) only [↓wpPre, wpPost, wpPoly, Int.reduceToNat, Int.reducePow, Int.reduceMul, Int.reduceAdd, Int.reduceSub, Int.reduceNeg, Nat.reduceAdd, Nat.reduceMul, Nat.reducePow, Int.reduceLT, Int.reduceLE, Int.reduceEq, Nat.reduceEqDiff, hl, rs, q3, q5]
      refine Br.by (fun c => ?_) (fun c => ?_)
      · have : k = m := by omega
        subst this
        simp -implicitDefEqProofs (disch := first | assumption | decide | omega | (simp only [wpD1] <;> omega) | (simp only [wpD2] <;> assumption) | solve_by_elim [HSub.refl, HSub.push, HSub.reserve] | fail) only [↓wpPre, wpPost, wpPoly, Int.reduceToNat, Int.reducePow, Int.reduceMul, Int.reduceAdd, Int.reduceSub, Int.reduceNeg, Nat.reduceAdd, Nat.reduceMul, Nat.reducePow, Int.reduceLT, Int.reduceLE, Int.reduceEq, Nat.reduceEqDiff, hl]
        exact .inr ⟨_, rfl, rfl, rfl, ((hsub.put (by omega) _).put (by omega) _), hd, q5, by simpa [firstP] using qr, by omega⟩
      · have hk' : k < m := by omega
        simp -implicitDefEqProofs (disch := first | assumption | decide | omega | (simp only [wpD1] <;> omega) | (simp only [wpD2] <;> assumption) | solve_by_elim [HSub.refl, HSub.push, HSub.reserve] | fail) only [↓wpPre, wpPost, wpPoly, Int.reduceToNat, Int.reducePow, Int.reduceMul, Int.reduceAdd, Int.reduceSub, Int.reduceNeg, Nat.reduceAdd, Nat.reduceMul, Nat.reducePow, Int.reduceLT, Int.reduceLE, Int.reduceEq, Nat.reduceEqDiff, hl, rs, q3, q5, qr, cont_slice, contB_one]
        exact .inl ⟨by omega, by rw [rb], hd, (((((hsub.put (by omega) _).put (by omega) _).put (by omega) _).put (by omega) _).put (by omega) _).push _, by omega, by rw [firstP_set hk']⟩
  · rintro h' ⟨Q, hl, hst, hpd, hsub, hd, q5, qr, hsz⟩
    refine ⟨Q, hl, by rw [hst]; decide, ?_⟩
    rw [hpd]
    show blockO _ _ (.exit 0) _
    simp -implicitDefEqProofs (disch := first | assumption | decide | omega | (simp only [wpD1] <;> omega) | (simp only [wpD2] <;> assumption) | solve_by_elim [HSub.refl, HSub.push, HSub.reserve] | fail) only [↓wpPre, wpPost, wpPoly, Int.reduceToNat, Int.reducePow, Int.reduceMul, Int.reduceAdd, Int.reduceSub, Int.reduceNeg, Nat.reduceAdd, Nat.reduceMul, Nat.reducePow, Int.reduceLT, Int.reduceLE, Int.reduceEq, Nat.reduceEqDiff, hd, q5]
    have rl := runL_length ts w m
    refine ⟨(hsub.put (by omega) _).put (by omega) _, by omega, h.size + 2, by omega, by rw [rl], ?_⟩
    simp -implicitDefEqProofs (disch := first | assumption | decide | omega | (simp only [wpD1] <;> omega) | (simp only [wpD2] <;> assumption) | solve_by_elim [HSub.refl, HSub.push, HSub.reserve] | fail) only [↓wpPre, wpPost, wpPoly, Int.reduceToNat, Int.reducePow, Int.reduceMul, Int.reduceAdd, Int.reduceSub, Int.reduceNeg, Nat.reduceAdd, Nat.reduceMul, Nat.reducePow, Int.reduceLT, Int.reduceLE, Int.reduceEq, Nat.reduceEqDiff, qr]

def runErr (n : Int) (ts w : List Int) (m : Int) : Int := if regErr n ts w = 0 then (if m < 0 ∨ 100000 < m then 4 else 0) else regErr n ts w
theorem Run_spec (hC : Has C T81) {n m : Int} {v1 v2 : AV} {ts w : List Int} {h : Heap} (h1 : RI h v1 ts) (h2 : RI h v2 w) (hm : In64 m) :
    ACalls C 81 [.int .i64 n, v1, v2, .int .i64 m] h (fun r h' => ∃ v', r = lstErr v' (runErr n ts w m) ∧ HSub h h' ∧ RI h' v' (if runErr n ts w m = 0 then runL ts w m.toNat else []) ∧ (runErr n ts w m = 0 → Fresh h h' v' (runL ts w m.toNat))) := by
  have pe : runErr n ts w m = if regErr n ts w = 0 then (if m < 0 ∨ 100000 < m then 4 else 0) else regErr n ts w := rfl
  unfold In64 at hm
  by_cases c : regErr n ts w = 0
  · rw [if_pos c] at pe
    obtain ⟨k, rfl, R⟩ := regErr_ok c
    have eR : madeR k ts w = .tuple [.agg [.int .i64 (k : Nat), .int .u32 (packL w), .int .u32 (maskT ts)], .int .i64 0] := by unfold madeR; rw [if_pos c]
    (refine calls_intro (hC.body (by decide) tab81) (Nat.le_of_ble_eq_true rfl) ?_); (show wp C _ none B81.code _ _); (simp only [B81]); simp -implicitDefEqProofs (disch := first | assumption | decide | omega | (simp only [wpD1] <;> omega) | (simp only [wpD2] <;> assumption) | solve_by_elim [HSub.refl, HSub.push, HSub.reserve] | fail) only [↓wpPre, wpPost, wpPoly, Int.reduceToNat, Int.reducePow, Int.reduceMul, Int.reduceAdd, Int.reduceSub, Int.reduceNeg, Nat.reduceAdd, Nat.reduceMul, Nat.reducePow, Int.reduceLT, Int.reduceLE, Int.reduceEq, Nat.reduceEqDiff]
    refine ACallsK.eq2 (made_spec (hC.sub (T' := T92) (by decide)) h1 h2) eR ?_
    by_cases c2 : m < 0 ∨ 100000 < m
    · rw [if_pos c2] at pe
      simp -implicitDefEqProofs (disch := first | assumption | decide | omega | (simp only [wpD1] <;> omega) | (simp only [wpD2] <;> assumption) | solve_by_elim [HSub.refl, HSub.push, HSub.reserve] | fail) only [↓wpPre, wpPost, wpPoly, Int.reduceToNat, Int.reducePow, Int.reduceMul, Int.reduceAdd, Int.reduceSub, Int.reduceNeg, Nat.reduceAdd, Nat.reduceMul, Nat.reducePow, Int.reduceLT, Int.reduceLE, Int.reduceEq, Nat.reduceEqDiff]
      (repeat' (first | (refine Br.by (fun _ => ?_) (fun _ => ?_)) | (simp -implicitDefEqProofs (disch := first | assumption | decide | omega | (simp only [wpD1] <;> omega) | (simp only [wpD2] <;> assumption) | solve_by_elim [HSub.refl, HSub.push, HSub.reserve] | fail) only [↓wpPre, wpPost, wpPoly, Int.reduceToNat, Int.reducePow, Int.reduceMul, Int.reduceAdd, Int.reduceSub, Int.reduceNeg, Nat.reduceAdd, Nat.reduceMul, Nat.reducePow, Int.reduceLT, Int.reduceLE, Int.reduceEq, Nat.reduceEqDiff])))
      all_goals first | exact ⟨.nilslice, by rw [pe, lstErr], HSub.push1 _ _, by rw [if_neg (by rw [pe]; decide)]; exact RI.nil, fun e => absurd e (by rw [pe]; decide)⟩ | omega
    · rw [if_neg c2] at pe
      obtain ⟨q, rfl⟩ := Int.eq_ofNat_of_zero_le (show 0 ≤ m by omega)
      simp -implicitDefEqProofs (disch := first | assumption | decide | omega | (simp only [wpD1] <;> omega) | (simp only [wpD2] <;> assumption) | solve_by_elim [HSub.refl, HSub.push, HSub.reserve] | fail) only [↓wpPre, wpPost, wpPoly, Int.reduceToNat, Int.reducePow, Int.reduceMul, Int.reduceAdd, Int.reduceSub, Int.reduceNeg, Nat.reduceAdd, Nat.reduceMul, Nat.reducePow, Int.reduceLT, Int.reduceLE, Int.reduceEq, Nat.reduceEqDiff]
      refine ACallsK.of (first_spec (hC.sub (T' := T93) (by decide)) R (by omega)) ?_
      rintro r h' F
      simp -implicitDefEqProofs (disch := first | assumption | decide | omega | (simp only [wpD1] <;> omega) | (simp only [wpD2] <;> assumption) | solve_by_elim [HSub.refl, HSub.push, HSub.reserve] | fail) only [↓wpPre, wpPost, wpPoly, Int.reduceToNat, Int.reducePow, Int.reduceMul, Int.reduceAdd, Int.reduceSub, Int.reduceNeg, Nat.reduceAdd, Nat.reduceMul, Nat.reducePow, Int.reduceLT, Int.reduceLE, Int.reduceEq, Nat.reduceEqDiff]
      exact ⟨r, by rw [pe, lstErr], (HSub.push1 _ _).trans F.sub, by rw [if_pos pe]; exact F.ri, fun _ => F.mono (HSub.push1 _ _)⟩
  · rw [if_neg c] at pe
    have eR : madeR n ts w = .tuple [.agg [.int .i64 0, .int .u32 0, .int .u32 0], .int .i64 (regErr n ts w)] := by unfold madeR; rw [if_neg c]
    (refine calls_intro (hC.body (by decide) tab81) (Nat.le_of_ble_eq_true rfl) ?_); (show wp C _ none B81.code _ _); (simp only [B81]); simp -implicitDefEqProofs (disch := first | assumption | decide | omega | (simp only [wpD1] <;> omega) | (simp only [wpD2] <;> assumption) | solve_by_elim [HSub.refl, HSub.push, HSub.reserve] | fail) only [↓wpPre, wpPost, wpPoly, Int.reduceToNat, Int.reducePow, Int.reduceMul, Int.reduceAdd, Int.reduceSub, Int.reduceNeg, Nat.reduceAdd, Nat.reduceMul, Nat.reducePow, Int.reduceLT, Int.reduceLE, Int.reduceEq, Nat.reduceEqDiff]
    refine ACallsK.eq2 (made_spec (hC.sub (T' := T92) (by decide)) h1 h2) eR ?_
    simp -implicitDefEqProofs (disch := first | assumption | decide | omega | (simp only [wpD1] <;> omega) | (simp only [wpD2] <;> assumption) | solve_by_elim [HSub.refl, HSub.push, HSub.reserve] | fail) only [↓wpPre, wpPost, wpPoly, Int.reduceToNat, Int.reducePow, Int.reduceMul, Int.reduceAdd, Int.reduceSub, Int.reduceNeg, Nat.reduceAdd, Nat.reduceMul, Nat.reducePow, Int.reduceLT, Int.reduceLE, Int.reduceEq, Nat.reduceEqDiff]
    exact ⟨.nilslice, by rw [pe, lstErr], HSub.push1 _ _, by rw [if_neg (by rw [pe]; exact c)]; exact RI.nil, fun e => absurd e (by rw [pe]; exact c)⟩
end
end Go.Ae

/- Period of the program; the reference's registers. -/
set_option linter.unusedSimpArgs false
set_option linter.unusedVariables false
namespace Go.Ae

theorem RegOk.same {n : Nat} {ts w : List Int} (R : RegOk n ts w) (k : Nat) : packL (winW ts w k) = packL w ↔ winW ts w k = w :=
  ⟨fun h => packL_inj (winW_length R.w1 k) (winW_01 R.bits k) R.bits h, fun h => by rw [h]⟩

section
variable {C : Ctx}
end
end Go.Ae

/- The reference's registers. -/
set_option linter.unusedSimpArgs false
set_option linter.unusedVariables false
namespace Go.Ae
theorem gV_u {w : Bool} {p q : Prop} : @gV .undef w ⟨p⟩ ⟨q⟩ = q := rfl
section
variable {C : Ctx}
end
end Go.Ae

/- The reference's sequences and periods. -/
set_option linter.unusedSimpArgs false
set_option linter.unusedVariables false
namespace Go.Ae
theorem xor01 {a b : Int} (ha : a = 0 ∨ a = 1) (hb : b = 0 ∨ b = 1) : bitsA .xor .i64 a b = (a + b) % 2 := by
  rcases ha with rfl | rfl <;> rcases hb with rfl | rfl <;> decide
section
variable {C : Ctx}
end
end Go.Ae

/- The reference's periods; the statement on registers of layer 8. -/
set_option linter.unusedSimpArgs false
set_option linter.unusedVariables false
namespace Go.Ae
section
variable {C : Ctx}
end
end Go.Ae

/- Lengths and taps of codes, of the program and of the reference. -/
set_option linter.unusedSimpArgs false
set_option linter.unusedVariables false
namespace Go.Ae

def lenOk (d : Int) : Bool := [5, 6, 7, 9, 10].any fun y => d == y
theorem lenOk_cases {d : Int} (h : lenOk d = true) : d = 5 ∨ d = 6 ∨ d = 7 ∨ d = 9 ∨ d = 10 := by
  simp only [lenOk, List.any_cons, List.any_nil, Bool.or_false, Bool.or_eq_true, beq_iff_eq] at h; exact h
def lenN (d : Int) : Nat := 2 ^ d.toNat - 1
theorem lenN_eq {d : Int} (h : lenOk d = true) : 31 ≤ lenN d ∧ lenN d ≤ 1023 ∧ (2 : Int) ^ d.toNat = ((lenN d + 1 : Nat) : Int) := by
  rcases lenOk_cases h with rfl | rfl | rfl | rfl | rfl <;> decide
def lenE (d : Int) : AV := if lenOk d = true then tup2 (lenN d) 0 else tup2 0 2
def tapsL (d w : Int) : List Int :=
  if d = 5 then (if w = 1 then [0, 2] else [0, 2, 3, 4]) else if d = 6 then (if w = 1 then [0, 1] else [0, 1, 2, 5]) else if d = 7 then (if w = 1 then [0, 3] else [0, 1, 2, 3])
  else if d = 9 then (if w = 1 then [0, 4] else [0, 3, 4, 6]) else (if w = 1 then [0, 3] else [0, 2, 3, 8])
def tapsErr (d w : Int) : Int := if lenOk d = true ∧ (w = 1 ∨ w = 2) then 0 else 2
theorem idxVal_agg {agg : Bool} {sz len : Nat} {vs : List AV} {kk : IntKind} {k : Int} (h : 0 ≤ k ∧ k < len) : idxValA agg sz len (.agg vs) (.int kk k) = partA agg vs (k.toNat * sz) sz := by simp [idxValA, h]
section
variable {C : Ctx}
theorem Length_spec (hC : Has C T70) {d : Int} {h : Heap} (hd : In64 d) : ACalls C 70 [.int .i64 d] h (fun r h' => r = lenE d ∧ h' = h) := by
  unfold In64 at hd
  refine ACalls.gc0 (P := fun r h' => r = lenE d ∧ HSub h h') ?_ (fun r h' hp => ⟨by rw [hp.1]; unfold lenE tup2; split <;> exact free_tuple (by simp [AV.free, AV.bel]), hp.2, hp.1, rfl⟩)
  (refine calls_intro (hC.body (by decide) tab70) (Nat.le_of_ble_eq_true rfl) ?_); (show wp C _ none B70.code _ _); (simp only [B70]); simp -implicitDefEqProofs (disch := first | assumption | decide | omega | (simp only [wpD1] <;> omega) | (simp only [wpD2] <;> assumption) | solve_by_elim [HSub.refl, HSub.push, HSub.reserve] | fail) only [↓wpPre, wpPost, wpPoly, Int.reduceToNat, Int.reducePow, Int.reduceMul, Int.reduceAdd, Int.reduceSub, Int.reduceNeg, Nat.reduceAdd, Nat.reduceMul, Nat.reducePow, Int.reduceLT, Int.reduceLE, Int.reduceEq, Nat.reduceEqDiff]
  refine ACallsK.eq (Contains_spec (hC.sub (T' := T89) (by decide)) (l := [5, 6, 7, 9, 10]) (RI.known (get_push_eq rfl) ⟨rfl, by decide⟩ (by decide))) ?_
  by_cases c : lenOk d = true
  · have hl := lenN_eq c
    have hc := lenOk_cases c
    have c' : ([5, 6, 7, 9, 10].any fun y => d == y) = true := c
    rw [c']
    simp -implicitDefEqProofs (disch := first | assumption | decide | omega | (simp only [wpD1] <;> omega) | (simp only [wpD2] <;> assumption) | solve_by_elim [HSub.refl, HSub.push, HSub.reserve] | fail) only [↓wpPre, wpPost, wpPoly, Int.reduceToNat, Int.reducePow, Int.reduceMul, Int.reduceAdd, Int.reduceSub, Int.reduceNeg, Nat.reduceAdd, Nat.reduceMul, Nat.reducePow, Int.reduceLT, Int.reduceLE, Int.reduceEq, Nat.reduceEqDiff, Int.one_mul, hl.2.2]
    exact ⟨by unfold lenE tup2; rw [if_pos c]; simp, HSub.push1 _ _⟩
  · have c' : ([5, 6, 7, 9, 10].any fun y => d == y) = false := Bool.eq_false_iff.2 c
    rw [c']
    simp -implicitDefEqProofs (disch := first | assumption | decide | omega | (simp only [wpD1] <;> omega) | (simp only [wpD2] <;> assumption) | solve_by_elim [HSub.refl, HSub.push, HSub.reserve] | fail) only [↓wpPre, wpPost, wpPoly, Int.reduceToNat, Int.reducePow, Int.reduceMul, Int.reduceAdd, Int.reduceSub, Int.reduceNeg, Nat.reduceAdd, Nat.reduceMul, Nat.reducePow, Int.reduceLT, Int.reduceLE, Int.reduceEq, Nat.reduceEqDiff]
    exact ⟨by unfold lenE tup2; rw [if_neg c], HSub.push1 _ _⟩
end
end Go.Ae

/- Taps of the program and of the reference. -/
set_option linter.unusedSimpArgs false
set_option linter.unusedVariables false
namespace Go.Ae
def TapRows (b : Nat) (h : Heap) : Prop :=
  h.get b = some (.cells (ints [0, 2]) true 0) ∧ h.get (b + 1) = some (.cells (ints [0, 2, 3, 4]) true 0) ∧ h.get (b + 2) = some (.cells (ints [0, 1]) true 0) ∧ h.get (b + 3) = some (.cells (ints [0, 1, 2, 5]) true 0) ∧
  h.get (b + 4) = some (.cells (ints [0, 3]) true 0) ∧ h.get (b + 5) = some (.cells (ints [0, 1, 2, 3]) true 0) ∧ h.get (b + 6) = some (.cells (ints [0, 4]) true 0) ∧ h.get (b + 7) = some (.cells (ints [0, 3, 4, 6]) true 0) ∧
  h.get (b + 8) = some (.cells (ints [0, 3]) true 0) ∧ h.get (b + 9) = some (.cells (ints [0, 2, 3, 8]) true 0)
theorem TapRows.mono {b : Nat} {h h' : Heap} (T : TapRows b h) (hs : HSub h h') : TapRows b h' := by
  obtain ⟨a0, a1, a2, a3, a4, a5, a6, a7, a8, a9⟩ := T
  have k : ∀ {i x}, h.get i = some x → h'.get i = some x := fun e => (hs.get _ (Heap.lt_of_get e)).trans e
  exact ⟨k a0, k a1, k a2, k a3, k a4, k a5, k a6, k a7, k a8, k a9⟩
def tapTab (b : Nat) : AV := .agg [.int .i64 5, .slice b 0 2 (.known 2), .slice (b + 1) 0 4 (.known 4), .int .i64 6, .slice (b + 2) 0 2 (.known 2), .slice (b + 3) 0 4 (.known 4), .int .i64 7, .slice (b + 4) 0 2 (.known 2), .slice (b + 5) 0 4 (.known 4),
  .int .i64 9, .slice (b + 6) 0 2 (.known 2), .slice (b + 7) 0 4 (.known 4), .int .i64 10, .slice (b + 8) 0 2 (.known 2), .slice (b + 9) 0 4 (.known 4)]
section
variable {C : Ctx}
set_option maxRecDepth 100000 in
set_option maxHeartbeats 4000000 in
theorem Taps_spec (hC : Has C T72) {d w : Int} {h : Heap} (hd : In64 d) (hw : In64 w) : ACalls C 72 [.int .i64 d, .int .i64 w] h (fun r h' => ∃ v, r = lstErr v (tapsErr d w) ∧ HSub h h' ∧ RI h' v (if tapsErr d w = 0 then tapsL d w else [])) := by
  unfold In64 at hw
  by_cases c : lenOk d = true
  · have e : lenE d = tup2 (lenN d) 0 := by unfold lenE; rw [if_pos c]
    by_cases cw : w = 1 ∨ w = 2
    · have pe : tapsErr d w = 0 := by unfold tapsErr; rw [if_pos ⟨c, cw⟩]
      rw [pe]
      (refine calls_intro (hC.body (by decide) tab72) (Nat.le_of_ble_eq_true rfl) ?_); (show wp C _ none B72.code _ _); (simp only [B72]); simp -implicitDefEqProofs (disch := first | assumption | decide | omega | (simp only [wpD1] <;> omega) | (simp only [wpD2] <;> assumption) | solve_by_elim [HSub.refl, HSub.push, HSub.reserve] | fail) only [↓wpPre, wpPost, wpPoly, Int.reduceToNat, Int.reducePow, Int.reduceMul, Int.reduceAdd, Int.reduceSub, Int.reduceNeg, Nat.reduceAdd, Nat.reduceMul, Nat.reducePow, Int.reduceLT, Int.reduceLE, Int.reduceEq, Nat.reduceEqDiff]
      refine ACallsK.eq2 (Length_spec (hC.sub (T' := T70) (by decide)) hd) e ?_
      simp -implicitDefEqProofs (disch := first | assumption | decide | omega | (simp only [wpD1] <;> omega) | (simp only [wpD2] <;> assumption) | solve_by_elim [HSub.refl, HSub.push, HSub.reserve] | fail) only [↓wpPre, wpPost, wpPoly, Int.reduceToNat, Int.reducePow, Int.reduceMul, Int.reduceAdd, Int.reduceSub, Int.reduceNeg, Nat.reduceAdd, Nat.reduceMul, Nat.reducePow, Int.reduceLT, Int.reduceLE, Int.reduceEq, Nat.reduceEqDiff, tup2]
      refine wp_loopI (fun j t h' => ∃ i : Nat, i ≤ 4 ∧ HSub h h' ∧ TapRows h.size h' ∧ t 0 = .int .i64 d ∧ t 1 = .int .i64 w ∧ t 46 = tapTab h.size ∧ t 47 = .int .i64 (i : Nat) ∧ (∀ y ∈ ([5, 6, 7, 9, 10] : List Int).take i, d ≠ y) ∧ j = 5 - i) (j0 := 5)
        ⟨0, by omega, ?_, ?_, rfl, rfl, rfl, rfl, by simp, rfl⟩ ?_
      · (repeat (first | exact HSub.refl _ | refine HSub.push ?_ _))
      · refine ⟨?_, ?_, ?_, ?_, ?_, ?_, ?_, ?_, ?_, ?_⟩ <;> (simp -implicitDefEqProofs (disch := first | assumption | decide | omega | (simp only [wpD1] <;> omega) | (simp only [wpD2] <;> assumption) | solve_by_elim [HSub.refl, HSub.push, HSub.reserve] | fail) only [↓wpPre, wpPost, wpPoly, Int.reduceToNat, Int.reducePow, Int.reduceMul, Int.reduceAdd, Int.reduceSub, Int.reduceNeg, Nat.reduceAdd, Nat.reduceMul, Nat.reducePow, Int.reduceLT, Int.reduceLE, Int.reduceEq, Nat.reduceEqDiff]; try rfl)
      rintro j t h' ⟨i, hi, hs, T, e0, e1, e46, e47, hne, hj⟩
      unfold tapTab at e46
      rcases (show i = 0 ∨ i = 1 ∨ i = 2 ∨ i = 3 ∨ i = 4 by omega) with rfl | rfl | rfl | rfl | rfl
      · by_cases cd : d = 5
        · subst cd
          rcases cw with rfl | rfl
          · simp -implicitDefEqProofs (disch := first | assumption | decide | omega | (simp only [wpD1] <;> omega) | (simp only [wpD2] <;> assumption) | solve_by_elim [HSub.refl, HSub.push, HSub.reserve] | fail) only [↓wpPre, wpPost, wpPoly, Int.reduceToNat, Int.reducePow, Int.reduceMul, Int.reduceAdd, Int.reduceSub, Int.reduceNeg, Nat.reduceAdd, Nat.reduceMul, Nat.reducePow, Int.reduceLT, Int.reduceLE, Int.reduceEq, Nat.reduceEqDiff, e0, e1, e46, e47, idxVal_agg]
            exact ⟨.slice (h.size + 0) 0 2 (.known 2), by simp [lstErr], hs.push _, RI.known ((get_push_lt (Heap.lt_of_get T.1)).trans T.1) ⟨rfl, by decide⟩ (by decide)⟩
          · simp -implicitDefEqProofs (disch := first | assumption | decide | omega | (simp only [wpD1] <;> omega) | (simp only [wpD2] <;> assumption) | solve_by_elim [HSub.refl, HSub.push, HSub.reserve] | fail) only [↓wpPre, wpPost, wpPoly, Int.reduceToNat, Int.reducePow, Int.reduceMul, Int.reduceAdd, Int.reduceSub, Int.reduceNeg, Nat.reduceAdd, Nat.reduceMul, Nat.reducePow, Int.reduceLT, Int.reduceLE, Int.reduceEq, Nat.reduceEqDiff, e0, e1, e46, e47, idxVal_agg]
            exact ⟨.slice (h.size + 1) 0 4 (.known 4), by simp [lstErr], hs.push _, RI.known ((get_push_lt (Heap.lt_of_get T.2.1)).trans T.2.1) ⟨rfl, by decide⟩ (by decide)⟩
        · simp -implicitDefEqProofs (disch := first | assumption | decide | omega | (simp only [wpD1] <;> omega) | (simp only [wpD2] <;> assumption) | solve_by_elim [HSub.refl, HSub.push, HSub.reserve] | fail) only [↓wpPre, wpPost, wpPoly, Int.reduceToNat, Int.reducePow, Int.reduceMul, Int.reduceAdd, Int.reduceSub, Int.reduceNeg, Nat.reduceAdd, Nat.reduceMul, Nat.reducePow, Int.reduceLT, Int.reduceLE, Int.reduceEq, Nat.reduceEqDiff, e0, e1, e46, e47, idxVal_agg]
          exact ⟨_, ⟨1, by omega, hs.push _, T.mono (HSub.push1 _ _), rfl, by simp, fun y hy => (by have hn := hne; simp at hn hy; omega), rfl⟩, by omega⟩
      · by_cases cd : d = 6
        · subst cd
          rcases cw with rfl | rfl
          · simp -implicitDefEqProofs (disch := first | assumption | decide | omega | (simp only [wpD1] <;> omega) | (simp only [wpD2] <;> assumption) | solve_by_elim [HSub.refl, HSub.push, HSub.reserve] | fail) only [↓wpPre, wpPost, wpPoly, Int.reduceToNat, Int.reducePow, Int.reduceMul, Int.reduceAdd, Int.reduceSub, Int.reduceNeg, Nat.reduceAdd, Nat.reduceMul, Nat.reducePow, Int.reduceLT, Int.reduceLE, Int.reduceEq, Nat.reduceEqDiff, e0, e1, e46, e47, idxVal_agg]
            exact ⟨.slice (h.size + 2) 0 2 (.known 2), by simp [lstErr], hs.push _, RI.known ((get_push_lt (Heap.lt_of_get T.2.2.1)).trans T.2.2.1) ⟨rfl, by decide⟩ (by decide)⟩
          · simp -implicitDefEqProofs (disch := first | assumption | decide | omega | (simp only [wpD1] <;> omega) | (simp only [wpD2] <;> assumption) | solve_by_elim [HSub.refl, HSub.push, HSub.reserve] | fail) only [↓wpPre, wpPost, wpPoly, Int.reduceToNat, Int.reducePow, Int.reduceMul, Int.reduceAdd, Int.reduceSub, Int.reduceNeg, Nat.reduceAdd, Nat.reduceMul, Nat.reducePow, Int.reduceLT, Int.reduceLE, Int.reduceEq, Nat.reduceEqDiff, e0, e1, e46, e47, idxVal_agg]
            exact ⟨.slice (h.size + 3) 0 4 (.known 4), by simp [lstErr], hs.push _, RI.known ((get_push_lt (Heap.lt_of_get T.2.2.2.1)).trans T.2.2.2.1) ⟨rfl, by decide⟩ (by decide)⟩
        · simp -implicitDefEqProofs (disch := first | assumption | decide | omega | (simp only [wpD1] <;> omega) | (simp only [wpD2] <;> assumption) | solve_by_elim [HSub.refl, HSub.push, HSub.reserve] | fail) only [↓wpPre, wpPost, wpPoly, Int.reduceToNat, Int.reducePow, Int.reduceMul, Int.reduceAdd, Int.reduceSub, Int.reduceNeg, Nat.reduceAdd, Nat.reduceMul, Nat.reducePow, Int.reduceLT, Int.reduceLE, Int.reduceEq, Nat.reduceEqDiff, e0, e1, e46, e47, idxVal_agg]
          exact ⟨_, ⟨2, by omega, hs.push _, T.mono (HSub.push1 _ _), rfl, by simp, fun y hy => (by have hn := hne; simp at hn hy; omega), rfl⟩, by omega⟩
      · by_cases cd : d = 7
        · subst cd
          rcases cw with rfl | rfl
          · simp -implicitDefEqProofs (disch := first | assumption | decide | omega | (simp only [wpD1] <;> omega) | (simp only [wpD2] <;> assumption) | solve_by_elim [HSub.refl, HSub.push, HSub.reserve] | fail) only [↓wpPre, wpPost, wpPoly, Int.reduceToNat, Int.reducePow, Int.reduceMul, Int.reduceAdd, Int.reduceSub, Int.reduceNeg, Nat.reduceAdd, Nat.reduceMul, Nat.reducePow, Int.reduceLT, Int.reduceLE, Int.reduceEq, Nat.reduceEqDiff, e0, e1, e46, e47, idxVal_agg]
            exact ⟨.slice (h.size + 4) 0 2 (.known 2), by simp [lstErr], hs.push _, RI.known ((get_push_lt (Heap.lt_of_get T.2.2.2.2.1)).trans T.2.2.2.2.1) ⟨rfl, by decide⟩ (by decide)⟩
          · simp -implicitDefEqProofs (disch := first | assumption | decide | omega | (simp only [wpD1] <;> omega) | (simp only [wpD2] <;> assumption) | solve_by_elim [HSub.refl, HSub.push, HSub.reserve] | fail) only [↓wpPre, wpPost, wpPoly, Int.reduceToNat, Int.reducePow, Int.reduceMul, Int.reduceAdd, Int.reduceSub, Int.reduceNeg, Nat.reduceAdd, Nat.reduceMul, Nat.reducePow, Int.reduceLT, Int.reduceLE, Int.reduceEq, Nat.reduceEqDiff, e0, e1, e46, e47, idxVal_agg]
            exact ⟨.slice (h.size + 5) 0 4 (.known 4), by simp [lstErr], hs.push _, RI.known ((get_push_lt (Heap.lt_of_get T.2.2.2.2.2.1)).trans T.2.2.2.2.2.1) ⟨rfl, by decide⟩ (by decide)⟩
        · simp -implicitDefEqProofs (disch := first | assumption | decide | omega | (simp only [wpD1] <;> omega) | (simp only [wpD2] <;> assumption) | solve_by_elim [HSub.refl, HSub.push, HSub.reserve] | fail) only [↓wpPre, wpPost, wpPoly, Int.reduceToNat, Int.reducePow, Int.reduceMul, Int.reduceAdd, Int.reduceSub, Int.reduceNeg, Nat.reduceAdd, Nat.reduceMul, Nat.reducePow, Int.reduceLT, Int.reduceLE, Int.reduceEq, Nat.reduceEqDiff, e0, e1, e46, e47, idxVal_agg]
          exact ⟨_, ⟨3, by omega, hs.push _, T.mono (HSub.push1 _ _), rfl, by simp, fun y hy => (by have hn := hne; simp at hn hy; omega), rfl⟩, by omega⟩
      · by_cases cd : d = 9
        · subst cd
          rcases cw with rfl | rfl
          · simp -implicitDefEqProofs (disch := first | assumption | decide | omega | (simp only [wpD1] <;> omega) | (simp only [wpD2] <;> assumption) | solve_by_elim [HSub.refl, HSub.push, HSub.reserve] | fail) only [↓wpPre, wpPost, wpPoly, Int.reduceToNat, Int.reducePow, Int.reduceMul, Int.reduceAdd, Int.reduceSub, Int.reduceNeg, Nat.reduceAdd, Nat.reduceMul, Nat.reducePow, Int.reduceLT, Int.reduceLE, Int.reduceEq, Nat.reduceEqDiff, e0, e1, e46, e47, idxVal_agg]
            exact ⟨.slice (h.size + 6) 0 2 (.known 2), by simp [lstErr], hs.push _, RI.known ((get_push_lt (Heap.lt_of_get T.2.2.2.2.2.2.1)).trans T.2.2.2.2.2.2.1) ⟨rfl, by decide⟩ (by decide)⟩
          · simp -implicitDefEqProofs (disch := first | assumption | decide | omega | (simp only [wpD1] <;> omega) | (simp only [wpD2] <;> assumption) | solve_by_elim [HSub.refl, HSub.push, HSub.reserve] | fail) only [↓wpPre, wpPost, wpPoly, Int.reduceToNat, Int.reducePow, Int.reduceMul, Int.reduceAdd, Int.reduceSub, Int.reduceNeg, Nat.reduceAdd, Nat.reduceMul, Nat.reducePow, Int.reduceLT, Int.reduceLE, Int.reduceEq, Nat.reduceEqDiff, e0, e1, e46, e47, idxVal_agg]
            exact ⟨.slice (h.size + 7) 0 4 (.known 4), by simp [lstErr], hs.push _, RI.known ((get_push_lt (Heap.lt_of_get T.2.2.2.2.2.2.2.1)).trans T.2.2.2.2.2.2.2.1) ⟨rfl, by decide⟩ (by decide)⟩
        · simp -implicitDefEqProofs (disch := first | assumption | decide | omega | (simp only [wpD1] <;> omega) | (simp only [wpD2] <;> assumption) | solve_by_elim [HSub.refl, HSub.push, HSub.reserve] | fail) only [↓wpPre, wpPost, wpPoly, Int.reduceToNat, Int.reducePow, Int.reduceMul, Int.reduceAdd, Int.reduceSub, Int.reduceNeg, Nat.reduceAdd, Nat.reduceMul, Nat.reducePow, Int.reduceLT, Int.reduceLE, Int.reduceEq, Nat.reduceEqDiff, e0, e1, e46, e47, idxVal_agg]
          exact ⟨_, ⟨4, by omega, hs.push _, T.mono (HSub.push1 _ _), rfl, by simp, fun y hy => (by have hn := hne; simp at hn hy; omega), rfl⟩, by omega⟩
      · by_cases cd : d = 10
        · subst cd
          rcases cw with rfl | rfl
          · simp -implicitDefEqProofs (disch := first | assumption | decide | omega | (simp only [wpD1] <;> omega) | (simp only [wpD2] <;> assumption) | solve_by_elim [HSub.refl, HSub.push, HSub.reserve] | fail) only [↓wpPre, wpPost, wpPoly, Int.reduceToNat, Int.reducePow, Int.reduceMul, Int.reduceAdd, Int.reduceSub, Int.reduceNeg, Nat.reduceAdd, Nat.reduceMul, Nat.reducePow, Int.reduceLT, Int.reduceLE, Int.reduceEq, Nat.reduceEqDiff, e0, e1, e46, e47, idxVal_agg]
            exact ⟨.slice (h.size + 8) 0 2 (.known 2), by simp [lstErr], hs.push _, RI.known ((get_push_lt (Heap.lt_of_get T.2.2.2.2.2.2.2.2.1)).trans T.2.2.2.2.2.2.2.2.1) ⟨rfl, by decide⟩ (by decide)⟩
          · simp -implicitDefEqProofs (disch := first | assumption | decide | omega | (simp only [wpD1] <;> omega) | (simp only [wpD2] <;> assumption) | solve_by_elim [HSub.refl, HSub.push, HSub.reserve] | fail) only [↓wpPre, wpPost, wpPoly, Int.reduceToNat, Int.reducePow, Int.reduceMul, Int.reduceAdd, Int.reduceSub, Int.reduceNeg, Nat.reduceAdd, Nat.reduceMul, Nat.reducePow, Int.reduceLT, Int.reduceLE, Int.reduceEq, Nat.reduceEqDiff, e0, e1, e46, e47, idxVal_agg]
            exact ⟨.slice (h.size + 9) 0 4 (.known 4), by simp [lstErr], hs.push _, RI.known ((get_push_lt (Heap.lt_of_get T.2.2.2.2.2.2.2.2.2)).trans T.2.2.2.2.2.2.2.2.2) ⟨rfl, by decide⟩ (by decide)⟩
        · exfalso
          rcases lenOk_cases c with h | h | h | h | h <;> simp_all
    · have pe : tapsErr d w = 2 := by unfold tapsErr; rw [if_neg (fun h => cw h.2)]
      rw [pe]
      (refine calls_intro (hC.body (by decide) tab72) (Nat.le_of_ble_eq_true rfl) ?_); (show wp C _ none B72.code _ _); (simp only [B72]); simp -implicitDefEqProofs (disch := first | assumption | decide | omega | (simp only [wpD1] <;> omega) | (simp only [wpD2] <;> assumption) | solve_by_elim [HSub.refl, HSub.push, HSub.reserve] | fail) only [↓wpPre, wpPost, wpPoly, Int.reduceToNat, Int.reducePow, Int.reduceMul, Int.reduceAdd, Int.reduceSub, Int.reduceNeg, Nat.reduceAdd, Nat.reduceMul, Nat.reducePow, Int.reduceLT, Int.reduceLE, Int.reduceEq, Nat.reduceEqDiff]
      refine ACallsK.eq2 (Length_spec (hC.sub (T' := T70) (by decide)) hd) e ?_
      simp -implicitDefEqProofs (disch := first | assumption | decide | omega | (simp only [wpD1] <;> omega) | (simp only [wpD2] <;> assumption) | solve_by_elim [HSub.refl, HSub.push, HSub.reserve] | fail) only [↓wpPre, wpPost, wpPoly, Int.reduceToNat, Int.reducePow, Int.reduceMul, Int.reduceAdd, Int.reduceSub, Int.reduceNeg, Nat.reduceAdd, Nat.reduceMul, Nat.reducePow, Int.reduceLT, Int.reduceLE, Int.reduceEq, Nat.reduceEqDiff, tup2]
      (repeat' (first | (refine Br.by (fun _ => ?_) (fun _ => ?_)) | (simp -implicitDefEqProofs (disch := first | assumption | decide | omega | (simp only [wpD1] <;> omega) | (simp only [wpD2] <;> assumption) | solve_by_elim [HSub.refl, HSub.push, HSub.reserve] | fail) only [↓wpPre, wpPost, wpPoly, Int.reduceToNat, Int.reducePow, Int.reduceMul, Int.reduceAdd, Int.reduceSub, Int.reduceNeg, Nat.reduceAdd, Nat.reduceMul, Nat.reducePow, Int.reduceLT, Int.reduceLE, Int.reduceEq, Nat.reduceEqDiff])))
      all_goals first | exact ⟨.nilslice, by rw [lstErr], HSub.refl _, RI.nil⟩ | omega
  · have e : lenE d = tup2 0 2 := by unfold lenE; rw [if_neg c]
    have pe : tapsErr d w = 2 := by unfold tapsErr; rw [if_neg (fun h => c h.1)]
    rw [pe]
    (refine calls_intro (hC.body (by decide) tab72) (Nat.le_of_ble_eq_true rfl) ?_); (show wp C _ none B72.code _ _); (simp only [B72]); simp -implicitDefEqProofs (disch := first | assumption | decide | omega | (simp only [wpD1] <;> omega) | (simp only [wpD2] <;> assumption) | solve_by_elim [HSub.refl, HSub.push, HSub.reserve] | fail) only [↓wpPre, wpPost, wpPoly, Int.reduceToNat, Int.reducePow, Int.reduceMul, Int.reduceAdd, Int.reduceSub, Int.reduceNeg, Nat.reduceAdd, Nat.reduceMul, Nat.reducePow, Int.reduceLT, Int.reduceLE, Int.reduceEq, Nat.reduceEqDiff]
    refine ACallsK.eq2 (Length_spec (hC.sub (T' := T70) (by decide)) hd) e ?_
    simp -implicitDefEqProofs (disch := first | assumption | decide | omega | (simp only [wpD1] <;> omega) | (simp only [wpD2] <;> assumption) | solve_by_elim [HSub.refl, HSub.push, HSub.reserve] | fail) only [↓wpPre, wpPost, wpPoly, Int.reduceToNat, Int.reducePow, Int.reduceMul, Int.reduceAdd, Int.reduceSub, Int.reduceNeg, Nat.reduceAdd, Nat.reduceMul, Nat.reducePow, Int.reduceLT, Int.reduceLE, Int.reduceEq, Nat.reduceEqDiff, tup2]
    exact ⟨.nilslice, by rw [lstErr], HSub.refl _, RI.nil⟩
end
end Go.Ae

/- Taps of the reference. -/
set_option linter.unusedSimpArgs false
set_option linter.unusedVariables false
namespace Go.Ae
section
variable {C : Ctx}
end
end Go.Ae

/- Repeat of Go's slices package, on one number; the sequences of the registers. -/
set_option linter.unusedSimpArgs false
set_option linter.unusedVariables false
namespace Go.Ae
theorem nat64 {n : Nat} (h : n < 18446744073709551616) : (BitVec.ofInt 64 (n : Int)).toNat = n := by
  rw [BitVec.toNat_ofInt]
  have : ((n : Int) % ((2 ^ 64 : Nat) : Int)).toNat = n := by
    rw [Int.emod_eq_of_lt (by omega) (by omega)]; simp
  exact this
theorem and_u64m {a : Int} (h : 0 ≤ a ∧ a < 18446744073709551616) : bitsA .and .u64 a 4294967295 = a % 4294967296 := by
  obtain ⟨n, rfl⟩ := Int.eq_ofNat_of_zero_le h.1
  show IntKind.u64.wrap ((BitVec.ofInt 64 (n : Int) &&& BitVec.ofInt 64 ((4294967295 : Nat) : Int)).toNat : Int) = _
  rw [BitVec.toNat_and, nat64 (by omega), nat64 (by decide)]
  have e : n &&& 4294967295 = n % 4294967296 := Nat.and_two_pow_sub_one_eq_mod n 32
  rw [e, w_u64 (by omega)]; omega
theorem copy_slice {h : Heap} {i o n u : Nat} {c : Cap} {s : AV} {m : Nat} {cs vs : List AV} (hc : contentA h 1 s = some (m, cs)) (hg : h.get i = some (.cells vs true u)) (hb : o + min m n ≤ vs.length) (h1 : (cs.take (min m n)).all AV.one = true) :
    copyA h 1 (.slice i o n c) s = some (.int .i64 (min m n : Nat), h.put i (.cells (splice vs o (cs.take (min m n))) true u)) := by
  simp only [copyA, hc, hg, Nat.mul_one]
  rw [if_pos ⟨hb, h1⟩]
def ones01 (x : Int) (n p : Nat) : List Int := List.replicate p x ++ List.replicate (n - p) 0
theorem ones01_length {x : Int} {n p : Nat} (h : p ≤ n) : (ones01 x n p).length = n := by simp [ones01]; omega
theorem splice_gen {vs cs : List AV} {o : Nat} (h : o + cs.length ≤ vs.length) : splice vs o cs = vs.take o ++ cs ++ vs.drop (o + cs.length) := by
  match cs, h with
  | [], _ => rfl
  | [c], h =>
    rw [splice_one, List.set_eq_take_append_cons_drop, if_pos (by simp at h; omega)]
    simp
  | x :: y :: cs, _ => rfl
theorem ones01_splice {x : Int} {n p k : Nat} (h : p + k ≤ n) : splice (ints (ones01 x n p)) p (ints (List.replicate k x)) = ints (ones01 x n (p + k)) := by
  rw [splice_gen (by rw [ints_length, ints_length, ones01_length (by omega), List.length_replicate]; exact h)]
  unfold ones01 ints
  have e1 : (List.replicate p x ++ List.replicate (n - p) (0 : Int)).take p = List.replicate p x := by simp
  have e2 : (List.replicate p x ++ List.replicate (n - p) (0 : Int)).drop (p + k) = List.replicate (n - (p + k)) 0 := by
    rw [List.drop_append]; simp; omega
  have e3 : (List.map (AV.int .i64) (List.replicate k x)).length = k := by simp
  rw [e3, ← List.map_take, ← List.map_drop, e1, e2, ← List.map_append, ← List.map_append, List.replicate_append_replicate]
section
variable {C : Ctx}
theorem Mul64_spec (hC : Has C T105) {a b : Int} {h : Heap} (ha : 0 ≤ a ∧ a < 4294967296) (hb : 0 ≤ b ∧ b < 4294967296) (hab : 0 ≤ a * b ∧ a * b < 4294967296) : ACalls C 105 [.int .u64 a, .int .u64 b] h (fun r h' => r = .tuple [.int .u64 0, .int .u64 (a * b)] ∧ h' = h) := by
  have e1 : a % 4294967296 = a := Int.emod_eq_of_lt ha.1 ha.2
  have e2 : b % 4294967296 = b := Int.emod_eq_of_lt hb.1 hb.2
  have e3 : a / 4294967296 = 0 := Int.ediv_eq_zero_of_lt ha.1 ha.2
  have e4 : b / 4294967296 = 0 := Int.ediv_eq_zero_of_lt hb.1 hb.2
  have e5 : a * b / 4294967296 = 0 := Int.ediv_eq_zero_of_lt hab.1 hab.2
  (refine calls_intro (hC.body (by decide) tab105) (Nat.le_of_ble_eq_true rfl) ?_); (show wp C _ none B105.code _ _); (simp only [B105]); simp -implicitDefEqProofs (disch := first | assumption | decide | omega | (simp only [wpD1] <;> omega) | (simp only [wpD2] <;> assumption) | solve_by_elim [HSub.refl, HSub.push, HSub.reserve] | fail) only [↓wpPre, wpPost, wpPoly, Int.reduceToNat, Int.reducePow, Int.reduceMul, Int.reduceAdd, Int.reduceSub, Int.reduceNeg, Nat.reduceAdd, Nat.reduceMul, Nat.reducePow, Int.reduceLT, Int.reduceLE, Int.reduceEq, Nat.reduceEqDiff, and_u64m, e1, e2, e3, e4, e5, Int.zero_mul, Int.mul_zero, Int.add_zero, Int.zero_ediv, Int.zero_emod]
theorem Mul_spec (hC : Has C T100) {a b : Int} {h : Heap} (ha : 0 ≤ a ∧ a < 4294967296) (hb : 0 ≤ b ∧ b < 4294967296) (hab : 0 ≤ a * b ∧ a * b < 4294967296) : ACalls C 100 [.int .u64 a, .int .u64 b] h (fun r h' => r = .tuple [.int .u64 0, .int .u64 (a * b)] ∧ h' = h) := by
  (refine calls_intro (hC.body (by decide) tab100) (Nat.le_of_ble_eq_true rfl) ?_); (show wp C _ none B100.code _ _); (simp only [B100]); simp -implicitDefEqProofs (disch := first | assumption | decide | omega | (simp only [wpD1] <;> omega) | (simp only [wpD2] <;> assumption) | solve_by_elim [HSub.refl, HSub.push, HSub.reserve] | fail) only [↓wpPre, wpPost, wpPoly, Int.reduceToNat, Int.reducePow, Int.reduceMul, Int.reduceAdd, Int.reduceSub, Int.reduceNeg, Nat.reduceAdd, Nat.reduceMul, Nat.reducePow, Int.reduceLT, Int.reduceLE, Int.reduceEq, Nat.reduceEqDiff]
  refine ACallsK.eq (Mul64_spec (hC.sub (T' := T105) (by decide)) ha hb hab) ?_
  simp -implicitDefEqProofs (disch := first | assumption | decide | omega | (simp only [wpD1] <;> omega) | (simp only [wpD2] <;> assumption) | solve_by_elim [HSub.refl, HSub.push, HSub.reserve] | fail) only [↓wpPre, wpPost, wpPoly, Int.reduceToNat, Int.reducePow, Int.reduceMul, Int.reduceAdd, Int.reduceSub, Int.reduceNeg, Nat.reduceAdd, Nat.reduceMul, Nat.reducePow, Int.reduceLT, Int.reduceLE, Int.reduceEq, Nat.reduceEqDiff]

set_option maxHeartbeats 1000000 in
theorem Repeat_spec (hC : Has C T90) {v : AV} {x : Int} {n : Nat} {h : Heap} (hv : RI h v [x]) (hn : 1 ≤ n ∧ n ≤ 1000000) : ACalls C 90 [v, .int .i64 (n : Nat)] h (fun r h' => Fresh h h' r (List.replicate n x)) := by
  have hcv := (hv.mono (HSub.push1 h (.cells (ints (List.replicate n 0)) true 0))).content
  have m1 : min 1 n = 1 := by omega
  have es : splice (ints (List.replicate n 0)) 0 ((ints [x]).take (min [x].length n)) = ints (ones01 x n 1) := by
    have h0 : ints (List.replicate n 0) = ints (ones01 x n 0) := by simp [ones01]
    have h1 : (ints [x]).take (min [x].length n) = ints (List.replicate 1 x) := by show (ints [x]).take (min 1 n) = _; rw [m1]; rfl
    rw [h1, h0, ones01_splice (by omega)]
  have hcp := copy_slice (h := h.push (.cells (ints (List.replicate n 0)) true 0)) (i := h.size) (o := 0) (n := n) (c := .known n) (u := 0) hcv (get_push_eq rfl) (by simp [ints]; omega) (by show ((ints [x]).take (min 1 n)).all AV.one = true; rw [m1]; rfl)
  rw [es] at hcp
  have hcp : copyA (h.push (.cells (ints (List.replicate n 0)) true 0)) 1 (.slice h.size 0 n (.known n)) v = some (.int .i64 ((1 : Nat) : Int), (h.push (.cells (ints (List.replicate n 0)) true 0)).put h.size (.cells (ints (ones01 x n 1)) true 0)) := by
    have : min [x].length n = 1 := m1
    rw [this] at hcp; exact hcp
  have m3 : (1 : Int) * (n : Int) = (n : Int) := Int.one_mul _
  (refine calls_intro (hC.body (by decide) tab90) (Nat.le_of_ble_eq_true rfl) ?_); (show wp C _ none B90.code _ _); (simp only [B90]); simp -implicitDefEqProofs (disch := first | assumption | decide | omega | (simp only [wpD1] <;> omega) | (simp only [wpD2] <;> assumption) | solve_by_elim [HSub.refl, HSub.push, HSub.reserve] | fail) only [↓wpPre, wpPost, wpPoly, Int.reduceToNat, Int.reducePow, Int.reduceMul, Int.reduceAdd, Int.reduceSub, Int.reduceNeg, Nat.reduceAdd, Nat.reduceMul, Nat.reducePow, Int.reduceLT, Int.reduceLE, Int.reduceEq, Nat.reduceEqDiff, hv.len]
  refine ACallsK.eq (Mul_spec (hC.sub (T' := T100) (by decide)) (a := 1) (b := (n : Int)) (by decide) (by omega) (by omega)) ?_
  simp -implicitDefEqProofs (disch := first | assumption | decide | omega | (simp only [wpD1] <;> omega) | (simp only [wpD2] <;> assumption) | solve_by_elim [HSub.refl, HSub.push, HSub.reserve] | fail) only [↓wpPre, wpPost, wpPoly, Int.reduceToNat, Int.reducePow, Int.reduceMul, Int.reduceAdd, Int.reduceSub, Int.reduceNeg, Nat.reduceAdd, Nat.reduceMul, Nat.reducePow, Int.reduceLT, Int.reduceLE, Int.reduceEq, Nat.reduceEqDiff, m3, ints_replicate, hcp]
  have s1 : ∀ (H : Heap) (p : Nat), p < n → sliceA H 1 (.slice h.size 0 n (.known n)) (some (.int .i64 p)) none none = some (.slice h.size p (n - p) (.known (n - p))) := by
    intro H p hp
    simp only [sliceA]
    rw [bounds_ok (a := p) (b := n) (c := n) rfl rfl rfl (by omega)]
    simp only
    rw [if_neg (by omega)]; simp
  have s2 : ∀ (H : Heap) (p : Nat), p < n → sliceA H 1 (.slice h.size 0 n (.known n)) none (some (.int .i64 p)) none = some (.slice h.size 0 p (.known n)) := by
    intro H p hp
    simp only [sliceA]
    rw [bounds_ok (a := 0) (b := p) (c := n) rfl rfl rfl (by omega)]
    simp only
    rw [if_neg (by omega)]; simp
  refine wp_loopI (fun j t h' => ∃ p : Nat, HSub h h' ∧ h'.get h.size = some (.cells (ints (ones01 x n p)) true 0) ∧ t 7 = .slice h.size 0 n (.known n) ∧ t 8 = .int .i64 (p : Nat) ∧ 1 ≤ p ∧ p ≤ n ∧ j = n - p) (j0 := n - 1)
    ⟨1, HSub.push1 _ _, get_push_eq rfl, rfl, rfl, by omega, by omega, rfl⟩ ?_
  rintro j t h' ⟨p, hs, hg, e7, e8, hp1, hp2, hj⟩
  simp -implicitDefEqProofs (disch := first | assumption | decide | omega | (simp only [wpD1] <;> omega) | (simp only [wpD2] <;> assumption) | solve_by_elim [HSub.refl, HSub.push, HSub.reserve] | fail) only [↓wpPre, wpPost, wpPoly, Int.reduceToNat, Int.reducePow, Int.reduceMul, Int.reduceAdd, Int.reduceSub, Int.reduceNeg, Nat.reduceAdd, Nat.reduceMul, Nat.reducePow, Int.reduceLT, Int.reduceLE, Int.reduceEq, Nat.reduceEqDiff, e7, e8]
  refine Br.by (fun c => ?_) (fun c => ?_)
  · have hp : p < n := by omega
    have hol := ones01_length (x := x) (n := n) (p := p) hp2
    have hgr : (h'.reserve 10).get h.size = some (.cells (ints (ones01 x n p)) true 0) := hg
    have hc2 : contentA (h'.reserve 10) 1 (.slice h.size 0 p (.known n)) = some (p, ints (List.replicate p x)) := by
      rw [cont_slice, hgr, contB_some (by rw [ints_length, hol]; omega)]
      congr 2
      rw [Nat.mul_one, ints_cut]; congr 1
      simp [ones01]
    have hk : p + min p (n - p) ≤ n := by omega
    have h3 := copy_slice (h := h'.reserve 10) (i := h.size) (o := p) (n := n - p) (c := .known (n - p)) (u := 0) hc2 hgr (by rw [ints_length, hol]; exact hk) (by unfold ints; rw [← List.map_take]; exact ints_one)
    have h4 : (ints (List.replicate p x)).take (min p (n - p)) = ints (List.replicate (min p (n - p)) x) := by unfold ints; rw [← List.map_take, List.take_replicate]; congr 2; omega
    rw [h4, ones01_splice hk] at h3
    simp -implicitDefEqProofs (disch := first | assumption | decide | omega | (simp only [wpD1] <;> omega) | (simp only [wpD2] <;> assumption) | solve_by_elim [HSub.refl, HSub.push, HSub.reserve] | fail) only [↓wpPre, wpPost, wpPoly, Int.reduceToNat, Int.reducePow, Int.reduceMul, Int.reduceAdd, Int.reduceSub, Int.reduceNeg, Nat.reduceAdd, Nat.reduceMul, Nat.reducePow, Int.reduceLT, Int.reduceLE, Int.reduceEq, Nat.reduceEqDiff, e7, e8, s1, s2, h3]
    refine ⟨_, ⟨p + min p (n - p), ?_, ?_, by omega, by omega, by omega, rfl⟩, by omega⟩
    · exact (hs.reserve _).put (Nat.le_refl _) _
    · exact get_put_eq rfl (Heap.lt_of_get hgr)
  · have : p = n := by omega
    subst this
    simp -implicitDefEqProofs (disch := first | assumption | decide | omega | (simp only [wpD1] <;> omega) | (simp only [wpD2] <;> assumption) | solve_by_elim [HSub.refl, HSub.push, HSub.reserve] | fail) only [↓wpPre, wpPost, wpPoly, Int.reduceToNat, Int.reducePow, Int.reduceMul, Int.reduceAdd, Int.reduceSub, Int.reduceNeg, Nat.reduceAdd, Nat.reduceMul, Nat.reducePow, Int.reduceLT, Int.reduceLE, Int.reduceEq, Nat.reduceEqDiff, e7]
    have : ones01 x p p = List.replicate p x := by simp [ones01]
    rw [this] at hg
    exact ⟨hs, by simp; omega, h.size, Nat.le_refl _, by simp, hg⟩
end
end Go.Ae

/- The sequences of the degrees. -/
set_option linter.unusedSimpArgs false
set_option linter.unusedVariables false
namespace Go.Ae
def onesL (d : Int) : List Int := List.replicate d.toNat 1
def bitsL (d w : Int) : List Int := runL (tapsL d w) (onesL d) (lenN d)
theorem bitsL_length (d w : Int) : (bitsL d w).length = lenN d := runL_length _ _ _
theorem reg_ok {d w : Int} (hd : lenOk d = true) (hw : w = 1 ∨ w = 2) : regErr d (tapsL d w) (onesL d) = 0 := by
  rcases lenOk_cases hd with rfl | rfl | rfl | rfl | rfl <;> rcases hw with rfl | rfl <;> decide
theorem bitsL_01 {d w : Int} : ∀ x ∈ bitsL d w, x = 0 ∨ x = 1 := by
  intro x hx
  obtain ⟨k, _, rfl⟩ := List.mem_map.1 hx
  exact seqB_01 (fun y hy => .inr (List.mem_replicate.1 hy).2) k
section
variable {C : Ctx}
set_option maxRecDepth 100000 in
theorem Bits_spec (hC : Has C T74) {d w : Int} {h : Heap} (hd : In64 d) (hw : In64 w) : ACalls C 74 [.int .i64 d, .int .i64 w] h (fun r h' => ∃ v, r = lstErr v (tapsErr d w) ∧ HSub h h' ∧ RI h' v (if tapsErr d w = 0 then bitsL d w else []) ∧ (tapsErr d w = 0 → Fresh h h' v (bitsL d w))) := by
  by_cases c : lenOk d = true ∧ (w = 1 ∨ w = 2)
  · have pe : tapsErr d w = 0 := by unfold tapsErr; rw [if_pos c]
    have hl := lenN_eq c.1
    have hr := reg_ok c.1 c.2
    have hd5 : 5 ≤ d ∧ d ≤ 10 := by have := lenOk_cases c.1; omega
    have hT := Taps_spec (d := d) (w := w) (h := h) (hC.sub (T' := T72) (by decide)) hd hw
    rw [pe, if_pos rfl] at hT
    rw [pe]
    obtain ⟨k, rfl⟩ := Int.eq_ofNat_of_zero_le (show 0 ≤ d by omega)
    have re : runErr (k : Nat) (tapsL (k : Nat) w) (onesL (k : Nat)) (lenN (k : Nat)) = 0 := by unfold runErr; rw [if_pos hr, if_neg (by omega)]
    (refine calls_intro (hC.body (by decide) tab74) (Nat.le_of_ble_eq_true rfl) ?_); (show wp C _ none B74.code _ _); (simp only [B74]); simp -implicitDefEqProofs (disch := first | assumption | decide | omega | (simp only [wpD1] <;> omega) | (simp only [wpD2] <;> assumption) | solve_by_elim [HSub.refl, HSub.push, HSub.reserve] | fail) only [↓wpPre, wpPost, wpPoly, Int.reduceToNat, Int.reducePow, Int.reduceMul, Int.reduceAdd, Int.reduceSub, Int.reduceNeg, Nat.reduceAdd, Nat.reduceMul, Nat.reducePow, Int.reduceLT, Int.reduceLE, Int.reduceEq, Nat.reduceEqDiff]
    refine ACallsK.of hT ?_
    rintro r h1 ⟨v1, rfl, s1, R1⟩
    have h22 : (2 : Int) ^ k = ((lenN (k : Nat) + 1 : Nat) : Int) := by have := hl.2.2; rwa [Int.toNat_natCast] at this
    have e3 : ((lenN (k : Nat) + 1 : Nat) : Int) - 1 = lenN (k : Nat) := by omega
    simp -implicitDefEqProofs (disch := first | assumption | decide | omega | (simp only [wpD1] <;> omega) | (simp only [wpD2] <;> assumption) | solve_by_elim [HSub.refl, HSub.push, HSub.reserve] | fail) only [↓wpPre, wpPost, wpPoly, Int.reduceToNat, Int.reducePow, Int.reduceMul, Int.reduceAdd, Int.reduceSub, Int.reduceNeg, Nat.reduceAdd, Nat.reduceMul, Nat.reducePow, Int.reduceLT, Int.reduceLE, Int.reduceEq, Nat.reduceEqDiff, lstErr, Int.one_mul, h22, e3, Heap.wf]
    have eo : onesL ((k : Nat) : Int) = List.replicate k 1 := by simp [onesL]
    have hsH : HSub h1 ((h1.reserve 13).put (h1.size + 2) (.cells [.int .i64 1] true 0)) := ((HSub.refl _).reserve _).put (by omega) _
    refine ACallsK.of (Repeat_spec (hC.sub (T' := T90) (by decide)) (x := 1) (n := k) (RI.known (get_put_eq rfl (by simp)) ⟨rfl, by decide⟩ (by decide)) (by omega)) ?_
    rintro r h2 F
    have s2 := F.sub
    have s02 := s1.trans (hsH.trans s2)
    have hR := Run_spec (m := (lenN (k : Nat) : Int)) (h := h2) (hC.sub (T' := T81) (by decide)) (R1.mono (hsH.trans s2)) (w := onesL (k : Nat)) (n := (k : Nat)) (by rw [eo]; exact F.ri) (by unfold In64; omega)
    rw [re] at hR
    simp -implicitDefEqProofs (disch := first | assumption | decide | omega | (simp only [wpD1] <;> omega) | (simp only [wpD2] <;> assumption) | solve_by_elim [HSub.refl, HSub.push, HSub.reserve] | fail) only [↓wpPre, wpPost, wpPoly, Int.reduceToNat, Int.reducePow, Int.reduceMul, Int.reduceAdd, Int.reduceSub, Int.reduceNeg, Nat.reduceAdd, Nat.reduceMul, Nat.reducePow, Int.reduceLT, Int.reduceLE, Int.reduceEq, Nat.reduceEqDiff, h22, e3, Int.one_mul]
    refine ACallsK.of hR ?_
    rintro r h3 ⟨v3, rfl, s3, R3, F3⟩
    simp -implicitDefEqProofs (disch := first | assumption | decide | omega | (simp only [wpD1] <;> omega) | (simp only [wpD2] <;> assumption) | solve_by_elim [HSub.refl, HSub.push, HSub.reserve] | fail) only [↓wpPre, wpPost, wpPoly, Int.reduceToNat, Int.reducePow, Int.reduceMul, Int.reduceAdd, Int.reduceSub, Int.reduceNeg, Nat.reduceAdd, Nat.reduceMul, Nat.reducePow, Int.reduceLT, Int.reduceLE, Int.reduceEq, Nat.reduceEqDiff, lstErr]
    have F3 := F3 rfl
    have : (lenN (k : Nat) : Int).toNat = lenN (k : Nat) := Int.toNat_natCast _
    rw [this] at F3
    exact ⟨v3, rfl, s02.trans s3, by rw [if_pos trivial]; exact F3.ri, fun _ => F3.mono s02⟩
  · have pe : tapsErr d w = 2 := by unfold tapsErr; rw [if_neg c]
    have hT := Taps_spec (d := d) (w := w) (h := h) (hC.sub (T' := T72) (by decide)) hd hw
    rw [pe] at hT
    rw [pe]
    (refine calls_intro (hC.body (by decide) tab74) (Nat.le_of_ble_eq_true rfl) ?_); (show wp C _ none B74.code _ _); (simp only [B74]); simp -implicitDefEqProofs (disch := first | assumption | decide | omega | (simp only [wpD1] <;> omega) | (simp only [wpD2] <;> assumption) | solve_by_elim [HSub.refl, HSub.push, HSub.reserve] | fail) only [↓wpPre, wpPost, wpPoly, Int.reduceToNat, Int.reducePow, Int.reduceMul, Int.reduceAdd, Int.reduceSub, Int.reduceNeg, Nat.reduceAdd, Nat.reduceMul, Nat.reducePow, Int.reduceLT, Int.reduceLE, Int.reduceEq, Nat.reduceEqDiff]
    refine ACallsK.of hT ?_
    rintro r h1 ⟨v1, rfl, s1, R1⟩
    simp -implicitDefEqProofs (disch := first | assumption | decide | omega | (simp only [wpD1] <;> omega) | (simp only [wpD2] <;> assumption) | solve_by_elim [HSub.refl, HSub.push, HSub.reserve] | fail) only [↓wpPre, wpPost, wpPoly, Int.reduceToNat, Int.reducePow, Int.reduceMul, Int.reduceAdd, Int.reduceSub, Int.reduceNeg, Nat.reduceAdd, Nat.reduceMul, Nat.reducePow, Int.reduceLT, Int.reduceLE, Int.reduceEq, Nat.reduceEqDiff, lstErr]
    exact ⟨.nilslice, rfl, s1, by rw [if_neg id]; exact RI.nil⟩

end
end Go.Ae

/- The codes. -/
set_option linter.unusedSimpArgs false
set_option linter.unusedVariables false
namespace Go.Ae
def codeB (d p : Int) (i : Nat) : Int :=
  if p = 1 then (bitsL d 1).getD i 0 else if p = 2 then (bitsL d 2).getD i 0 else ((bitsL d 1).getD i 0 + (bitsL d 2).getD ((i + (p - 3).toNat) % lenN d) 0) % 2
def bitC (d p : Int) : List Int := (List.range (lenN d)).map (codeB d p)
def codeL (d p : Int) : List Int := (bitC d p).map fun b => 1 - 2 * b
def codeErr (d p : Int) : Int := if lenOk d = true ∧ 1 ≤ p ∧ p ≤ lenN d + 2 then 0 else 2
theorem bitC_length (d p : Int) : (bitC d p).length = lenN d := by simp [bitC]
theorem codeL_length (d p : Int) : (codeL d p).length = lenN d := by simp [codeL, bitC]
theorem bit01_getD {l : List Int} (h : ∀ x ∈ l, x = 0 ∨ x = 1) (i : Nat) : l.getD i 0 = 0 ∨ l.getD i 0 = 1 := bit01.get h i
theorem codeB_01 (d p : Int) (i : Nat) : codeB d p i = 0 ∨ codeB d p i = 1 := by
  unfold codeB
  have h1 := bit01_getD (bitsL_01 (d := d) (w := 1)) i
  have h2 := bit01_getD (bitsL_01 (d := d) (w := 2)) i
  split
  · exact h1
  · split
    · exact h2
    · omega
theorem codeB_one (d : Int) : bitC d 1 = bitsL d 1 := by
  refine seqx (by rw [bitC_length, bitsL_length]) fun i hi => ?_
  rw [bitC_length] at hi
  simp [bitC, hi, codeB]
theorem codeB_two (d : Int) : bitC d 2 = bitsL d 2 := by
  refine seqx (by rw [bitC_length, bitsL_length]) fun i hi => ?_
  rw [bitC_length] at hi
  simp [bitC, hi, codeB]
def codeP (d p : Int) (k : Nat) : List Int := (List.range (lenN d)).map fun i => if i < k then codeB d p i else (bitsL d 1).getD i 0
theorem codeP_length (d p : Int) (k : Nat) : (codeP d p k).length = lenN d := by simp [codeP]
theorem codeP_get {d p : Int} {k i : Nat} (hi : i < lenN d) : (codeP d p k).getD i 0 = if i < k then codeB d p i else (bitsL d 1).getD i 0 := by simp [codeP, hi]
theorem codeP_zero (d p : Int) : codeP d p 0 = bitsL d 1 := by
  refine seqx (by rw [codeP_length, bitsL_length]) fun i hi => ?_
  rw [codeP_length] at hi
  rw [codeP_get hi, if_neg (by omega)]
theorem codeP_full (d p : Int) : codeP d p (lenN d) = bitC d p := by
  refine seqx (by rw [codeP_length, bitC_length]) fun i hi => ?_
  rw [codeP_length] at hi
  rw [codeP_get hi, if_pos hi]; simp [bitC, hi]
theorem codeP_set {d p : Int} {k : Nat} (hk : k < lenN d) : (codeP d p k).set k (codeB d p k) = codeP d p (k + 1) := by
  refine seqx (by simp [codeP]) fun i hi => ?_
  simp only [List.length_set, codeP_length] at hi
  rw [codeP_get hi]
  simp only [List.getD_eq_getElem?_getD, List.getElem?_set, codeP_length]
  by_cases e : k = i
  · subst e; rw [if_pos rfl, if_pos hk, if_pos (by omega)]; rfl
  · rw [if_neg e]
    have := codeP_get (p := p) (k := k) hi
    rw [List.getD_eq_getElem?_getD] at this
    rw [this]
    by_cases c : i < k
    · rw [if_pos c, if_pos (by omega)]
    · rw [if_neg c, if_neg (by omega)]; simp
section
variable {C : Ctx}
set_option maxRecDepth 100000 in
set_option maxHeartbeats 2000000 in
theorem Code_spec (hC : Has C T76) {d p : Int} {h : Heap} (hd : In64 d) (hp : In64 p) : ACalls C 76 [.int .i64 d, .int .i64 p] h (fun r h' => ∃ v, r = lstErr v (codeErr d p) ∧ HSub h h' ∧ RI h' v (if codeErr d p = 0 then codeL d p else []) ∧ (codeErr d p = 0 → Fresh h h' v (codeL d p))) := by
  have hp' := hp
  unfold In64 at hp'
  have pe : codeErr d p = if lenOk d = true ∧ 1 ≤ p ∧ p ≤ lenN d + 2 then 0 else 2 := rfl
  by_cases c : lenOk d = true
  · have hl := lenN_eq c
    have eL : lenE d = tup2 (lenN d) 0 := by unfold lenE; rw [if_pos c]
    by_cases cp : 1 ≤ p ∧ p ≤ lenN d + 2
    · rw [if_pos ⟨c, cp⟩] at pe
      rw [pe]
      have t1 : tapsErr d 1 = 0 := by unfold tapsErr; rw [if_pos ⟨c, .inl rfl⟩]
      have t2 : tapsErr d 2 = 0 := by unfold tapsErr; rw [if_pos ⟨c, .inr rfl⟩]
      have lb1 := bitsL_length d 1
      have lb2 := bitsL_length d 2
      have hB : ∀ {w : Int} {h : Heap}, tapsErr d w = 0 → In64 w → ACalls C 74 [.int .i64 d, .int .i64 w] h (fun r h' => ∃ i, h.size ≤ i ∧ r = lstErr (.slice i 0 (lenN d) (.known (lenN d))) 0 ∧ HSub h h' ∧ h'.get i = some (.cells (ints (bitsL d w)) true 0)) := by
        intro w h e hw
        refine (Bits_spec (hC.sub (T' := T74) (by decide)) hd hw).mono ?_
        rintro r h' ⟨v, h1, _, _, h4⟩
        obtain ⟨s, _, i, hi, hv, hg⟩ := h4 e
        rw [bitsL_length] at hv
        exact ⟨i, hi, by rw [h1, e, hv], s, hg⟩
      have bC : ∀ k, (bitC d p).getD k 0 = 0 ∨ (bitC d p).getD k 0 = 1 := fun k => bit01_getD (fun x hx => by
        obtain ⟨i, _, rfl⟩ := List.mem_map.1 hx
        exact codeB_01 d p i) k
      have lC := bitC_length d p
      (refine calls_intro (hC.body (by decide) tab76) (Nat.le_of_ble_eq_true rfl) ?_); (show wp C _ none B76.code _ _); (simp only [B76]); simp -implicitDefEqProofs (disch := first | assumption | decide | omega | (simp only [wpD1] <;> omega) | (simp only [wpD2] <;> assumption) | solve_by_elim [HSub.refl, HSub.push, HSub.reserve] | fail) only [↓wpPre, wpPost, wpPoly, Int.reduceToNat, Int.reducePow, Int.reduceMul, Int.reduceAdd, Int.reduceSub, Int.reduceNeg, Nat.reduceAdd, Nat.reduceMul, Nat.reducePow, Int.reduceLT, Int.reduceLE, Int.reduceEq, Nat.reduceEqDiff]
      refine ACallsK.eq2 (Length_spec (hC.sub (T' := T70) (by decide)) hd) eL ?_
      simp -implicitDefEqProofs (disch := first | assumption | decide | omega | (simp only [wpD1] <;> omega) | (simp only [wpD2] <;> assumption) | solve_by_elim [HSub.refl, HSub.push, HSub.reserve] | fail) only [↓wpPre, wpPost, wpPoly, Int.reduceToNat, Int.reducePow, Int.reduceMul, Int.reduceAdd, Int.reduceSub, Int.reduceNeg, Nat.reduceAdd, Nat.reduceMul, Nat.reducePow, Int.reduceLT, Int.reduceLE, Int.reduceEq, Nat.reduceEqDiff, tup2]
      refine ACallsK.of (hB t1 (by unfold In64; omega)) ?_
      rintro r h1 ⟨i1, hi1, rfl, s1, g1⟩
      simp -implicitDefEqProofs (disch := first | assumption | decide | omega | (simp only [wpD1] <;> omega) | (simp only [wpD2] <;> assumption) | solve_by_elim [HSub.refl, HSub.push, HSub.reserve] | fail) only [↓wpPre, wpPost, wpPoly, Int.reduceToNat, Int.reducePow, Int.reduceMul, Int.reduceAdd, Int.reduceSub, Int.reduceNeg, Nat.reduceAdd, Nat.reduceMul, Nat.reducePow, Int.reduceLT, Int.reduceLE, Int.reduceEq, Nat.reduceEqDiff, lstErr]
      refine ACallsK.of (hB t2 (by unfold In64; omega)) ?_
      rintro r h2 ⟨i2, hi2, rfl, s2, g2⟩
      have hl1 := Heap.lt_of_get g1
      have hl2 := Heap.lt_of_get g2
      have g1' := (s2.get i1 hl1).trans g1
      have s12 := s1.trans s2
      have z2 := s2.size
      have z1 := s1.size
      by_cases p1 : p = 1
      · have gi1 : h2.get i1 = some (.cells (ints (bitC d p)) true 0) := by rw [p1, codeB_one]; exact g1'
        simp -implicitDefEqProofs (disch := first | assumption | decide | omega | (simp only [wpD1] <;> omega) | (simp only [wpD2] <;> assumption) | solve_by_elim [HSub.refl, HSub.push, HSub.reserve] | fail) only [↓wpPre, wpPost, wpPoly, Int.reduceToNat, Int.reducePow, Int.reduceMul, Int.reduceAdd, Int.reduceSub, Int.reduceNeg, Nat.reduceAdd, Nat.reduceMul, Nat.reducePow, Int.reduceLT, Int.reduceLE, Int.reduceEq, Nat.reduceEqDiff, lstErr]
        have gX : h2.get i1 = some (.cells (ints (mapPre (fun b => 1 - 2 * b) (bitC d p) 0)) true 0) := by rw [mapPre_zero]; exact gi1
        refine wp_loopI (fun j t h' => ∃ k : Nat, HSub h h' ∧ i1 < h'.size ∧ h'.get i1 = some (.cells (ints (mapPre (fun b => 1 - 2 * b) (bitC d p) k)) true 0) ∧ t 8 = .slice i1 0 (lenN d) (.known (lenN d)) ∧ t 68 = .slice i1 0 (lenN d) (.known (lenN d)) ∧ t 69 = .int .i64 (lenN d) ∧ t 70 = .int .i64 (k : Nat) ∧ k ≤ lenN d ∧ j = lenN d - k) (j0 := lenN d)
          ⟨0, s12, Heap.lt_of_get gi1, gX, rfl, rfl, rfl, rfl, by omega, rfl⟩ ?_
        rintro j t h' ⟨k, hs, hlt, hg, e8, e68, e69, e70, hk, hj⟩
        have hml := mapPre_length (fun b => 1 - 2 * b) (bitC d p) k
        simp -implicitDefEqProofs (disch := first | assumption | decide | omega | (simp only [wpD1] <;> omega) | (simp only [wpD2] <;> assumption) | solve_by_elim [HSub.refl, HSub.push, HSub.reserve] | fail) only [↓wpPre, wpPost, wpPoly, Int.reduceToNat, Int.reducePow, Int.reduceMul, Int.reduceAdd, Int.reduceSub, Int.reduceNeg, Nat.reduceAdd, Nat.reduceMul, Nat.reducePow, Int.reduceLT, Int.reduceLE, Int.reduceEq, Nat.reduceEqDiff, e69, e70]
        refine Br.by (fun c1 => ?_) (fun c1 => ?_)
        · have hk' : k < (bitC d p).length := by omega
          have hg2 := mapPre_get (fun b => 1 - 2 * b) hk'
          have hst := mapPre_set (fun b => 1 - 2 * b) hk'
          have b01 := bC k
          simp -implicitDefEqProofs (disch := first | assumption | decide | omega | (simp only [wpD1] <;> omega) | (simp only [wpD2] <;> assumption) | solve_by_elim [HSub.refl, HSub.push, HSub.reserve] | fail) only [↓wpPre, wpPost, wpPoly, Int.reduceToNat, Int.reducePow, Int.reduceMul, Int.reduceAdd, Int.reduceSub, Int.reduceNeg, Nat.reduceAdd, Nat.reduceMul, Nat.reducePow, Int.reduceLT, Int.reduceLE, Int.reduceEq, Nat.reduceEqDiff, e8, e68, e69, e70, hg, hg2]
          exact ⟨_, ⟨k + 1, hs.put (by omega) _, hlt, by rw [← hst], by simp, by omega, rfl⟩, by omega⟩
        · have : k = (bitC d p).length := by omega
          subst this
          rw [mapPre_full] at hg
          simp -implicitDefEqProofs (disch := first | assumption | decide | omega | (simp only [wpD1] <;> omega) | (simp only [wpD2] <;> assumption) | solve_by_elim [HSub.refl, HSub.push, HSub.reserve] | fail) only [↓wpPre, wpPost, wpPoly, Int.reduceToNat, Int.reducePow, Int.reduceMul, Int.reduceAdd, Int.reduceSub, Int.reduceNeg, Nat.reduceAdd, Nat.reduceMul, Nat.reducePow, Int.reduceLT, Int.reduceLE, Int.reduceEq, Nat.reduceEqDiff, e8]
          have cl := codeL_length d p
          have F : Fresh h h' (.slice i1 0 (lenN d) (.known (lenN d))) (codeL d p) := ⟨hs, by omega, i1, by omega, by rw [cl], hg⟩
          exact ⟨_, rfl, hs, by rw [if_pos trivial]; exact F.ri, fun _ => F⟩
      by_cases p2 : p = 2
      · have gi2 : h2.get i2 = some (.cells (ints (bitC d p)) true 0) := by rw [p2, codeB_two]; exact g2
        simp -implicitDefEqProofs (disch := first | assumption | decide | omega | (simp only [wpD1] <;> omega) | (simp only [wpD2] <;> assumption) | solve_by_elim [HSub.refl, HSub.push, HSub.reserve] | fail) only [↓wpPre, wpPost, wpPoly, Int.reduceToNat, Int.reducePow, Int.reduceMul, Int.reduceAdd, Int.reduceSub, Int.reduceNeg, Nat.reduceAdd, Nat.reduceMul, Nat.reducePow, Int.reduceLT, Int.reduceLE, Int.reduceEq, Nat.reduceEqDiff, lstErr]
        have gX : h2.get i2 = some (.cells (ints (mapPre (fun b => 1 - 2 * b) (bitC d p) 0)) true 0) := by rw [mapPre_zero]; exact gi2
        refine wp_loopI (fun j t h' => ∃ k : Nat, HSub h h' ∧ i2 < h'.size ∧ h'.get i2 = some (.cells (ints (mapPre (fun b => 1 - 2 * b) (bitC d p) k)) true 0) ∧ t 8 = .slice i2 0 (lenN d) (.known (lenN d)) ∧ t 68 = .slice i2 0 (lenN d) (.known (lenN d)) ∧ t 69 = .int .i64 (lenN d) ∧ t 70 = .int .i64 (k : Nat) ∧ k ≤ lenN d ∧ j = lenN d - k) (j0 := lenN d)
          ⟨0, s12, Heap.lt_of_get gi2, gX, rfl, rfl, rfl, rfl, by omega, rfl⟩ ?_
        rintro j t h' ⟨k, hs, hlt, hg, e8, e68, e69, e70, hk, hj⟩
        have hml := mapPre_length (fun b => 1 - 2 * b) (bitC d p) k
        simp -implicitDefEqProofs (disch := first | assumption | decide | omega | (simp only [wpD1] <;> omega) | (simp only [wpD2] <;> assumption) | solve_by_elim [HSub.refl, HSub.push, HSub.reserve] | fail) only [↓wpPre, wpPost, wpPoly, Int.reduceToNat, Int.reducePow, Int.reduceMul, Int.reduceAdd, Int.reduceSub, Int.reduceNeg, Nat.reduceAdd, Nat.reduceMul, Nat.reducePow, Int.reduceLT, Int.reduceLE, Int.reduceEq, Nat.reduceEqDiff, e69, e70]
        refine Br.by (fun c1 => ?_) (fun c1 => ?_)
        · have hk' : k < (bitC d p).length := by omega
          have hg2 := mapPre_get (fun b => 1 - 2 * b) hk'
          have hst := mapPre_set (fun b => 1 - 2 * b) hk'
          have b01 := bC k
          simp -implicitDefEqProofs (disch := first | assumption | decide | omega | (simp only [wpD1] <;> omega) | (simp only [wpD2] <;> assumption) | solve_by_elim [HSub.refl, HSub.push, HSub.reserve] | fail) only [↓wpPre, wpPost, wpPoly, Int.reduceToNat, Int.reducePow, Int.reduceMul, Int.reduceAdd, Int.reduceSub, Int.reduceNeg, Nat.reduceAdd, Nat.reduceMul, Nat.reducePow, Int.reduceLT, Int.reduceLE, Int.reduceEq, Nat.reduceEqDiff, e8, e68, e69, e70, hg, hg2]
          exact ⟨_, ⟨k + 1, hs.put (by omega) _, hlt, by rw [← hst], by simp, by omega, rfl⟩, by omega⟩
        · have : k = (bitC d p).length := by omega
          subst this
          rw [mapPre_full] at hg
          simp -implicitDefEqProofs (disch := first | assumption | decide | omega | (simp only [wpD1] <;> omega) | (simp only [wpD2] <;> assumption) | solve_by_elim [HSub.refl, HSub.push, HSub.reserve] | fail) only [↓wpPre, wpPost, wpPoly, Int.reduceToNat, Int.reducePow, Int.reduceMul, Int.reduceAdd, Int.reduceSub, Int.reduceNeg, Nat.reduceAdd, Nat.reduceMul, Nat.reducePow, Int.reduceLT, Int.reduceLE, Int.reduceEq, Nat.reduceEqDiff, e8]
          have cl := codeL_length d p
          have F : Fresh h h' (.slice i2 0 (lenN d) (.known (lenN d))) (codeL d p) := ⟨hs, by omega, i2, by omega, by rw [cl], hg⟩
          exact ⟨_, rfl, hs, by rw [if_pos trivial]; exact F.ri, fun _ => F⟩
      have hp3 : 3 ≤ p := by omega
      have lP := codeP_length d p
      have g0 : h2.get i1 = some (.cells (ints (codeP d p 0)) true 0) := by rw [codeP_zero]; exact g1'
      simp -implicitDefEqProofs (disch := first | assumption | decide | omega | (simp only [wpD1] <;> omega) | (simp only [wpD2] <;> assumption) | solve_by_elim [HSub.refl, HSub.push, HSub.reserve] | fail) only [↓wpPre, wpPost, wpPoly, Int.reduceToNat, Int.reducePow, Int.reduceMul, Int.reduceAdd, Int.reduceSub, Int.reduceNeg, Nat.reduceAdd, Nat.reduceMul, Nat.reducePow, Int.reduceLT, Int.reduceLE, Int.reduceEq, Nat.reduceEqDiff, lstErr]
      refine wp_loopI (fun j t h' => ∃ k : Nat, HSub h h' ∧ i1 < h'.size ∧ h'.get i1 = some (.cells (ints (codeP d p k)) true 0) ∧ h'.get i2 = some (.cells (ints (bitsL d 2)) true 0) ∧ t 1 = .int .i64 p ∧ t 6 = .int .i64 (lenN d) ∧ t 8 = .slice i1 0 (lenN d) (.known (lenN d)) ∧ t 10 = .slice i2 0 (lenN d) (.known (lenN d)) ∧
          t 42 = .slice i1 0 (lenN d) (.known (lenN d)) ∧ t 43 = .int .i64 (lenN d) ∧ t 44 = .int .i64 (k : Nat) ∧ k ≤ lenN d ∧ j = lenN d - k) (j0 := lenN d)
        ⟨0, s12, by omega, g0, g2, rfl, rfl, rfl, rfl, rfl, rfl, rfl, by omega, rfl⟩ ?_
      rintro j t h3 ⟨k, hs3, hlt3, hg1, hg2, e1, e6, e8, e10, e42, e43, e44, hk, hj⟩
      have lPk := lP k
      simp -implicitDefEqProofs (disch := first | assumption | decide | omega | (simp only [wpD1] <;> omega) | (simp only [wpD2] <;> assumption) | solve_by_elim [HSub.refl, HSub.push, HSub.reserve] | fail) only [↓wpPre, wpPost, wpPoly, Int.reduceToNat, Int.reducePow, Int.reduceMul, Int.reduceAdd, Int.reduceSub, Int.reduceNeg, Nat.reduceAdd, Nat.reduceMul, Nat.reducePow, Int.reduceLT, Int.reduceLE, Int.reduceEq, Nat.reduceEqDiff, e43, e44]
      refine Br.by (fun c1 => ?_) (fun c1 => ?_)
      · have hk' : k < lenN d := by omega
        have gP : (codeP d p k).getD k 0 = (bitsL d 1).getD k 0 := by rw [codeP_get hk', if_neg (by omega)]
        have em : ((k : Int) + p - 3) % (lenN d : Int) = (((k + (p - 3).toNat) % lenN d : Nat) : Int) := by
          rw [show (k : Int) + p - 3 = ((k + (p - 3).toNat : Nat) : Int) by omega]; exact (Int.natCast_emod _ _).symm
        have hm : (k + (p - 3).toNat) % lenN d < lenN d := Nat.mod_lt _ (by omega)
        have lb2 := bitsL_length d 2
        have ex := xor01 (bit01_getD (bitsL_01 (d := d) (w := 1)) k) (bit01_getD (bitsL_01 (d := d) (w := 2)) ((k + (p - 3).toNat) % lenN d))
        have hcb : codeB d p k = ((bitsL d 1).getD k 0 + (bitsL d 2).getD ((k + (p - 3).toNat) % lenN d) 0) % 2 := by unfold codeB; rw [if_neg p1, if_neg p2]
        rw [← hcb] at ex
        have hst := codeP_set (p := p) hk'
        simp -implicitDefEqProofs (disch := first | assumption | decide | omega | (simp only [wpD1] <;> omega) | (simp only [wpD2] <;> assumption) | solve_by_elim [HSub.refl, HSub.push, HSub.reserve] | fail) only [↓wpPre, wpPost, wpPoly, Int.reduceToNat, Int.reducePow, Int.reduceMul, Int.reduceAdd, Int.reduceSub, Int.reduceNeg, Nat.reduceAdd, Nat.reduceMul, Nat.reducePow, Int.reduceLT, Int.reduceLE, Int.reduceEq, Nat.reduceEqDiff, e1, e6, e8, e10, e42, e43, e44, hg1, hg2, gP, em, ex, hst]
        exact ⟨_, ⟨k + 1, hs3.put (by omega) _, hlt3, rfl, by simp, by omega, rfl⟩, by omega⟩
      · have ek : k = lenN d := by omega
        rw [ek] at hg1
        have gi3 : h3.get i1 = some (.cells (ints (bitC d p)) true 0) := by rw [← codeP_full]; exact hg1
        simp -implicitDefEqProofs (disch := first | assumption | decide | omega | (simp only [wpD1] <;> omega) | (simp only [wpD2] <;> assumption) | solve_by_elim [HSub.refl, HSub.push, HSub.reserve] | fail) only [↓wpPre, wpPost, wpPoly, Int.reduceToNat, Int.reducePow, Int.reduceMul, Int.reduceAdd, Int.reduceSub, Int.reduceNeg, Nat.reduceAdd, Nat.reduceMul, Nat.reducePow, Int.reduceLT, Int.reduceLE, Int.reduceEq, Nat.reduceEqDiff, e8]
        have gX : h3.get i1 = some (.cells (ints (mapPre (fun b => 1 - 2 * b) (bitC d p) 0)) true 0) := by rw [mapPre_zero]; exact gi3
        refine wp_loopI (fun j t h' => ∃ k : Nat, HSub h h' ∧ i1 < h'.size ∧ h'.get i1 = some (.cells (ints (mapPre (fun b => 1 - 2 * b) (bitC d p) k)) true 0) ∧ t 8 = .slice i1 0 (lenN d) (.known (lenN d)) ∧ t 68 = .slice i1 0 (lenN d) (.known (lenN d)) ∧ t 69 = .int .i64 (lenN d) ∧ t 70 = .int .i64 (k : Nat) ∧ k ≤ lenN d ∧ j = lenN d - k) (j0 := lenN d)
          ⟨0, hs3, Heap.lt_of_get gi3, gX, e8, rfl, rfl, rfl, by omega, rfl⟩ ?_
        rintro j u h' ⟨k, hs, hlt, hg, f8, e68, e69, e70, hk, hj⟩
        have hml := mapPre_length (fun b => 1 - 2 * b) (bitC d p) k
        simp -implicitDefEqProofs (disch := first | assumption | decide | omega | (simp only [wpD1] <;> omega) | (simp only [wpD2] <;> assumption) | solve_by_elim [HSub.refl, HSub.push, HSub.reserve] | fail) only [↓wpPre, wpPost, wpPoly, Int.reduceToNat, Int.reducePow, Int.reduceMul, Int.reduceAdd, Int.reduceSub, Int.reduceNeg, Nat.reduceAdd, Nat.reduceMul, Nat.reducePow, Int.reduceLT, Int.reduceLE, Int.reduceEq, Nat.reduceEqDiff, e69, e70]
        refine Br.by (fun c1 => ?_) (fun c1 => ?_)
        · have hk' : k < (bitC d p).length := by omega
          have hg2 := mapPre_get (fun b => 1 - 2 * b) hk'
          have hst := mapPre_set (fun b => 1 - 2 * b) hk'
          have b01 := bC k
          simp -implicitDefEqProofs (disch := first | assumption | decide | omega | (simp only [wpD1] <;> omega) | (simp only [wpD2] <;> assumption) | solve_by_elim [HSub.refl, HSub.push, HSub.reserve] | fail) only [↓wpPre, wpPost, wpPoly, Int.reduceToNat, Int.reducePow, Int.reduceMul, Int.reduceAdd, Int.reduceSub, Int.reduceNeg, Nat.reduceAdd, Nat.reduceMul, Nat.reducePow, Int.reduceLT, Int.reduceLE, Int.reduceEq, Nat.reduceEqDiff, f8, e68, e69, e70, hg, hg2]
          exact ⟨_, ⟨k + 1, hs.put (by omega) _, hlt, by rw [← hst], by simp, by omega, rfl⟩, by omega⟩
        · have : k = (bitC d p).length := by omega
          subst this
          rw [mapPre_full] at hg
          simp -implicitDefEqProofs (disch := first | assumption | decide | omega | (simp only [wpD1] <;> omega) | (simp only [wpD2] <;> assumption) | solve_by_elim [HSub.refl, HSub.push, HSub.reserve] | fail) only [↓wpPre, wpPost, wpPoly, Int.reduceToNat, Int.reducePow, Int.reduceMul, Int.reduceAdd, Int.reduceSub, Int.reduceNeg, Nat.reduceAdd, Nat.reduceMul, Nat.reducePow, Int.reduceLT, Int.reduceLE, Int.reduceEq, Nat.reduceEqDiff, f8]
          have cl := codeL_length d p
          have F : Fresh h h' (.slice i1 0 (lenN d) (.known (lenN d))) (codeL d p) := ⟨hs, by omega, i1, by omega, by rw [cl], hg⟩
          exact ⟨_, rfl, hs, by rw [if_pos trivial]; exact F.ri, fun _ => F⟩
    · have cp' : ¬ (lenOk d = true ∧ 1 ≤ p ∧ p ≤ lenN d + 2) := fun h => cp h.2
      rw [if_neg cp'] at pe
      rw [pe]
      (refine calls_intro (hC.body (by decide) tab76) (Nat.le_of_ble_eq_true rfl) ?_); (show wp C _ none B76.code _ _); (simp only [B76]); simp -implicitDefEqProofs (disch := first | assumption | decide | omega | (simp only [wpD1] <;> omega) | (simp only [wpD2] <;> assumption) | solve_by_elim [HSub.refl, HSub.push, HSub.reserve] | fail) only [↓wpPre, wpPost, wpPoly, Int.reduceToNat, Int.reducePow, Int.reduceMul, Int.reduceAdd, Int.reduceSub, Int.reduceNeg, Nat.reduceAdd, Nat.reduceMul, Nat.reducePow, Int.reduceLT, Int.reduceLE, Int.reduceEq, Nat.reduceEqDiff]
      refine ACallsK.eq2 (Length_spec (hC.sub (T' := T70) (by decide)) hd) eL ?_
      simp -implicitDefEqProofs (disch := first | assumption | decide | omega | (simp only [wpD1] <;> omega) | (simp only [wpD2] <;> assumption) | solve_by_elim [HSub.refl, HSub.push, HSub.reserve] | fail) only [↓wpPre, wpPost, wpPoly, Int.reduceToNat, Int.reducePow, Int.reduceMul, Int.reduceAdd, Int.reduceSub, Int.reduceNeg, Nat.reduceAdd, Nat.reduceMul, Nat.reducePow, Int.reduceLT, Int.reduceLE, Int.reduceEq, Nat.reduceEqDiff, tup2]
      (repeat' (first | (refine Br.by (fun _ => ?_) (fun _ => ?_)) | (simp -implicitDefEqProofs (disch := first | assumption | decide | omega | (simp only [wpD1] <;> omega) | (simp only [wpD2] <;> assumption) | solve_by_elim [HSub.refl, HSub.push, HSub.reserve] | fail) only [↓wpPre, wpPost, wpPoly, Int.reduceToNat, Int.reducePow, Int.reduceMul, Int.reduceAdd, Int.reduceSub, Int.reduceNeg, Nat.reduceAdd, Nat.reduceMul, Nat.reducePow, Int.reduceLT, Int.reduceLE, Int.reduceEq, Nat.reduceEqDiff])))
      all_goals first | exact ⟨.nilslice, by rw [lstErr], HSub.refl _, by rw [if_neg id]; exact RI.nil⟩ | omega
  · have eL : lenE d = tup2 0 2 := by unfold lenE; rw [if_neg c]
    have cp' : ¬ (lenOk d = true ∧ 1 ≤ p ∧ p ≤ lenN d + 2) := fun h => c h.1
    rw [if_neg cp'] at pe
    rw [pe]
    (refine calls_intro (hC.body (by decide) tab76) (Nat.le_of_ble_eq_true rfl) ?_); (show wp C _ none B76.code _ _); (simp only [B76]); simp -implicitDefEqProofs (disch := first | assumption | decide | omega | (simp only [wpD1] <;> omega) | (simp only [wpD2] <;> assumption) | solve_by_elim [HSub.refl, HSub.push, HSub.reserve] | fail) only [↓wpPre, wpPost, wpPoly, Int.reduceToNat, Int.reducePow, Int.reduceMul, Int.reduceAdd, Int.reduceSub, Int.reduceNeg, Nat.reduceAdd, Nat.reduceMul, Nat.reducePow, Int.reduceLT, Int.reduceLE, Int.reduceEq, Nat.reduceEqDiff]
    refine ACallsK.eq2 (Length_spec (hC.sub (T' := T70) (by decide)) hd) eL ?_
    simp -implicitDefEqProofs (disch := first | assumption | decide | omega | (simp only [wpD1] <;> omega) | (simp only [wpD2] <;> assumption) | solve_by_elim [HSub.refl, HSub.push, HSub.reserve] | fail) only [↓wpPre, wpPost, wpPoly, Int.reduceToNat, Int.reducePow, Int.reduceMul, Int.reduceAdd, Int.reduceSub, Int.reduceNeg, Nat.reduceAdd, Nat.reduceMul, Nat.reducePow, Int.reduceLT, Int.reduceLE, Int.reduceEq, Nat.reduceEqDiff, tup2]
    exact ⟨.nilslice, by rw [lstErr], HSub.refl _, by rw [if_neg id]; exact RI.nil⟩
end
end Go.Ae

/- The codes of the reference; sums. -/
set_option linter.unusedSimpArgs false
set_option linter.unusedVariables false
namespace Go.Ae
def codeK (d p : Int) (k : Nat) : List Int := (codeL d p).take k ++ List.replicate (lenN d - k) 0
theorem codeL_get {d p : Int} {k : Nat} (h : k < lenN d) : (codeL d p).getD k 0 = 1 - 2 * codeB d p k := by simp [codeL, bitC, h]
theorem codeL_range {d p : Int} : ∀ x ∈ codeL d p, -1 ≤ x ∧ x ≤ 1 := by
  intro x hx
  obtain ⟨b, hb, rfl⟩ := List.mem_map.1 hx
  obtain ⟨i, _, rfl⟩ := List.mem_map.1 hb
  have := codeB_01 d p i
  omega
def sumE (d p : Int) : AV := if codeErr d p = 0 then tup2 (codeL d p).sum 0 else tup2 0 2
section
variable {C : Ctx}
end
end Go.Ae

/- Samples of codes, of the program. -/
set_option linter.unusedSimpArgs false
set_option linter.unusedVariables false
namespace Go.Ae
def knownErr (d o : Int) : Int := if lenOk d = true ∧ 1 ≤ o ∧ o ≤ 8 then 0 else 2
def sampL (d p : Int) (o : Nat) : List Int := ((codeL d p).map fun x => List.replicate o x).flatten
def sampP (d p : Int) (o k : Nat) : List Int := (((codeL d p).take k).map fun x => List.replicate o x).flatten
theorem sampP_succ {d p : Int} {o k : Nat} (h : k < (codeL d p).length) : sampP d p o (k + 1) = sampP d p o k ++ List.replicate o ((codeL d p).getD k 0) := by
  unfold sampP; rw [take_succ_getD h]; simp
theorem sampP_length {d p : Int} {o : Nat} : ∀ k, k ≤ (codeL d p).length → (sampP d p o k).length = k * o
  | 0, _ => by simp [sampP]
  | k + 1, h => by rw [sampP_succ (by omega), List.length_append, sampP_length k (by omega), List.length_replicate, Nat.add_mul, Nat.one_mul]
theorem sampP_full (d p : Int) (o : Nat) : sampP d p o (codeL d p).length = sampL d p o := by unfold sampP sampL; rw [List.take_length]
section
variable {C : Ctx}
theorem known09_spec (hC : Has C T150) {d o : Int} {h : Heap} (hd : In64 d) (ho : In64 o) : ACalls C 150 [.int .i64 d, .int .i64 o] h (fun r h' => r = .int .i64 (knownErr d o) ∧ h' = h) := by
  unfold In64 at ho
  by_cases c : lenOk d = true
  · have e : lenE d = tup2 (lenN d) 0 := by unfold lenE; rw [if_pos c]
    by_cases co : 1 ≤ o ∧ o ≤ 8
    · have pe : knownErr d o = 0 := by unfold knownErr; rw [if_pos ⟨c, co⟩]
      rw [pe]
      (refine calls_intro (hC.body (by decide) tab150) (Nat.le_of_ble_eq_true rfl) ?_); (show wp C _ none B150.code _ _); (simp only [B150]); simp -implicitDefEqProofs (disch := first | assumption | decide | omega | (simp only [wpD1] <;> omega) | (simp only [wpD2] <;> assumption) | solve_by_elim [HSub.refl, HSub.push, HSub.reserve] | fail) only [↓wpPre, wpPost, wpPoly, Int.reduceToNat, Int.reducePow, Int.reduceMul, Int.reduceAdd, Int.reduceSub, Int.reduceNeg, Nat.reduceAdd, Nat.reduceMul, Nat.reducePow, Int.reduceLT, Int.reduceLE, Int.reduceEq, Nat.reduceEqDiff]
      refine ACallsK.eq2 (Length_spec (hC.sub (T' := T70) (by decide)) hd) e ?_
      simp -implicitDefEqProofs (disch := first | assumption | decide | omega | (simp only [wpD1] <;> omega) | (simp only [wpD2] <;> assumption) | solve_by_elim [HSub.refl, HSub.push, HSub.reserve] | fail) only [↓wpPre, wpPost, wpPoly, Int.reduceToNat, Int.reducePow, Int.reduceMul, Int.reduceAdd, Int.reduceSub, Int.reduceNeg, Nat.reduceAdd, Nat.reduceMul, Nat.reducePow, Int.reduceLT, Int.reduceLE, Int.reduceEq, Nat.reduceEqDiff, tup2]
    · have pe : knownErr d o = 2 := by unfold knownErr; rw [if_neg (fun h => co h.2)]
      rw [pe]
      (refine calls_intro (hC.body (by decide) tab150) (Nat.le_of_ble_eq_true rfl) ?_); (show wp C _ none B150.code _ _); (simp only [B150]); simp -implicitDefEqProofs (disch := first | assumption | decide | omega | (simp only [wpD1] <;> omega) | (simp only [wpD2] <;> assumption) | solve_by_elim [HSub.refl, HSub.push, HSub.reserve] | fail) only [↓wpPre, wpPost, wpPoly, Int.reduceToNat, Int.reducePow, Int.reduceMul, Int.reduceAdd, Int.reduceSub, Int.reduceNeg, Nat.reduceAdd, Nat.reduceMul, Nat.reducePow, Int.reduceLT, Int.reduceLE, Int.reduceEq, Nat.reduceEqDiff]
      refine ACallsK.eq2 (Length_spec (hC.sub (T' := T70) (by decide)) hd) e ?_
      simp -implicitDefEqProofs (disch := first | assumption | decide | omega | (simp only [wpD1] <;> omega) | (simp only [wpD2] <;> assumption) | solve_by_elim [HSub.refl, HSub.push, HSub.reserve] | fail) only [↓wpPre, wpPost, wpPoly, Int.reduceToNat, Int.reducePow, Int.reduceMul, Int.reduceAdd, Int.reduceSub, Int.reduceNeg, Nat.reduceAdd, Nat.reduceMul, Nat.reducePow, Int.reduceLT, Int.reduceLE, Int.reduceEq, Nat.reduceEqDiff, tup2]
      (repeat' (first | (refine Br.by (fun _ => ?_) (fun _ => ?_)) | (simp -implicitDefEqProofs (disch := first | assumption | decide | omega | (simp only [wpD1] <;> omega) | (simp only [wpD2] <;> assumption) | solve_by_elim [HSub.refl, HSub.push, HSub.reserve] | fail) only [↓wpPre, wpPost, wpPoly, Int.reduceToNat, Int.reducePow, Int.reduceMul, Int.reduceAdd, Int.reduceSub, Int.reduceNeg, Nat.reduceAdd, Nat.reduceMul, Nat.reducePow, Int.reduceLT, Int.reduceLE, Int.reduceEq, Nat.reduceEqDiff])))
      all_goals omega
  · have e : lenE d = tup2 0 2 := by unfold lenE; rw [if_neg c]
    have pe : knownErr d o = 2 := by unfold knownErr; rw [if_neg (fun h => c h.1)]
    rw [pe]
    (refine calls_intro (hC.body (by decide) tab150) (Nat.le_of_ble_eq_true rfl) ?_); (show wp C _ none B150.code _ _); (simp only [B150]); simp -implicitDefEqProofs (disch := first | assumption | decide | omega | (simp only [wpD1] <;> omega) | (simp only [wpD2] <;> assumption) | solve_by_elim [HSub.refl, HSub.push, HSub.reserve] | fail) only [↓wpPre, wpPost, wpPoly, Int.reduceToNat, Int.reducePow, Int.reduceMul, Int.reduceAdd, Int.reduceSub, Int.reduceNeg, Nat.reduceAdd, Nat.reduceMul, Nat.reducePow, Int.reduceLT, Int.reduceLE, Int.reduceEq, Nat.reduceEqDiff]
    refine ACallsK.eq2 (Length_spec (hC.sub (T' := T70) (by decide)) hd) e ?_
    simp -implicitDefEqProofs (disch := first | assumption | decide | omega | (simp only [wpD1] <;> omega) | (simp only [wpD2] <;> assumption) | solve_by_elim [HSub.refl, HSub.push, HSub.reserve] | fail) only [↓wpPre, wpPost, wpPoly, Int.reduceToNat, Int.reducePow, Int.reduceMul, Int.reduceAdd, Int.reduceSub, Int.reduceNeg, Nat.reduceAdd, Nat.reduceMul, Nat.reducePow, Int.reduceLT, Int.reduceLE, Int.reduceEq, Nat.reduceEqDiff, tup2]
end
end Go.Ae

/- Lists of samples: read, grown, filled. -/
set_option linter.unusedSimpArgs false
set_option linter.unusedVariables false
namespace Go.Ae

def AV.sameC : AV → AV → Bool
  | .agg a, .agg b => samesB a b
  | a, b => a.sameB b
def samesC : List AV → List AV → Bool
  | [], [] => true
  | a :: xs, b :: ys => a.sameC b && samesC xs ys
  | _, _ => false
def AV.sameR : AV → AV → Bool
  | .tuple a, .tuple b => samesC a b
  | a, b => a.sameC b
def runsAs (T : Nat → Option ABody) (fuel depth g : Nat) (args : List AV) (v : AV) : Bool :=
  match runCall T fuel depth (.func g [] []) args Heap.empty with
  | some (r, _) => r.sameR v
  | _ => false
def smp (p : Int × Int) : AV := .agg [.int .i64 p.1, .int .i64 p.2]
theorem getP_mem {l : List (Int × Int)} {k : Nat} (h : k < l.length) : l.getD k (0, 0) ∈ l := by
  rw [List.getD_eq_getElem?_getD, List.getElem?_eq_getElem h]; exact List.getElem_mem h
def elF (sz : Nat) (v : AV) (k off : Nat) : AV :=
  match v with
  | .slice i o _ _ => .ptr i (o + k * sz + off)
  | _ => .undef
section
variable {h h' h0 H : Heap} {v : AV} {l : List (Int × Int)} {n : Nat} {cs : List AV}
theorem SI.len (A : SI h v l) : lenA v = some (.int .i64 l.length) := SL.len A
theorem SI.cells (A : SI h v l) : v.cells = [v] := SL.cells A
theorem SI.one (A : SI h v l) : v.one = true := SL.one A
theorem SI.lt (A : SI h v l) : l.length < 9223372036854775808 := SL.lt A
theorem SI.mono (A : SI h v l) (hs : HSub h h') : SI h' v l := SL.mono A hs
theorem SI.content (A : SI h v l) : contentA h 2 v = some (l.length, smps l) := SL.content A
theorem SI.contentC (A : SI h v l) : ∀ (h' : Heap), HSub h h' → contentA h' 2 v = some (l.length, smps l) := fun _ hs => (A.mono hs).content
theorem SI.idx (A : SI h v l) {kk : IntKind} {k : Int} (hk : 0 ≤ k ∧ k < l.length) : idxA 2 v (.int kk k) = some (elA 2 v k.toNat) := SL.idx A hk
theorem smps_cut {k : Nat} (hk : k < l.length) : cut (smps l) (k * 2) 2 = [.int .i64 (l.getD k (0, 0)).1, .int .i64 (l.getD k (0, 0)).2] := by
  have e : l[k]? = some (l.getD k (0, 0)) := by simp [hk]
  have h0 := smps_get0 (l := l) (k := k)
  have h1 := smps_get1 (l := l) (k := k)
  rw [e] at h0 h1
  unfold cut
  obtain ⟨h0', e0⟩ := List.getElem?_eq_some_iff.1 h0
  obtain ⟨h1', e1⟩ := List.getElem?_eq_some_iff.1 h1
  rw [List.drop_eq_getElem_cons h0', List.drop_eq_getElem_cons h1', e0, e1]; rfl
theorem SI.loadA (A : SI h v l) {k : Nat} (hk : k < l.length) : Ae.loadA h true 2 (elA 2 v k) = some (smp (l.getD k (0, 0))) := by
  rw [SL.loadA A hk, smps_cut hk]; rfl
theorem SI.load0 (A : SI h v l) {k : Nat} (hk : k < l.length) : Ae.loadA h false 1 (elF 2 v k 0) = some (.int .i64 (l.getD k (0, 0)).1) := by
  have e : l[k]? = some (l.getD k (0, 0)) := by simp [hk]
  obtain ⟨hl, hlt, ⟨rfl, h1⟩ | ⟨i, o, c, vs, wr, u, rfl, hg, hle, hc, _⟩⟩ := A
  · omega
  · have h2 := smps_get0 (l := l) (k := k)
    rw [← hc, cut, List.getElem?_take_of_lt (by omega), List.getElem?_drop, e] at h2
    simp only [elF, Ae.loadA, hg, partA, Bool.false_eq_true, if_false]
    rw [Nat.add_zero, h2]; rfl
theorem SI.load1 (A : SI h v l) {k : Nat} (hk : k < l.length) : Ae.loadA h false 1 (elF 2 v k 1) = some (.int .i64 (l.getD k (0, 0)).2) := by
  have e : l[k]? = some (l.getD k (0, 0)) := by simp [hk]
  obtain ⟨hl, hlt, ⟨rfl, h1⟩ | ⟨i, o, c, vs, wr, u, rfl, hg, hle, hc, _⟩⟩ := A
  · omega
  · have h2 := smps_get1 (l := l) (k := k)
    rw [← hc, cut, List.getElem?_take_of_lt (by omega), List.getElem?_drop, e] at h2
    simp only [elF, Ae.loadA, hg, partA, Bool.false_eq_true, if_false]
    rw [Nat.add_assoc, h2]; rfl
def GrwS (h0 h : Heap) (v : AV) (l : List (Int × Int)) : Prop := Grw h0 h 2 v l.length (smps l)
theorem GrwS.si (A : GrwS h0 h v l) : SI h v l := Grw.sl A
theorem GrwS.sub (A : GrwS h0 h v l) : HSub h0 h := A.1
theorem GrwS.nil (h : Heap) : GrwS h h .nilslice [] := Grw.nil h 2
theorem GrwS.nil' (hs : HSub h0 h) : GrwS h0 h .nilslice [] := ⟨hs, by simp [smps], by simp, .inl ⟨rfl, rfl⟩⟩
theorem GrwS.mono (A : GrwS h0 h v l) (hs : HSub h H) : GrwS h0 H v l := Grw.mono A hs
theorem GrwS.base {h1 : Heap} (A : GrwS h h1 v l) (hs : HSub h0 h) : GrwS h0 h1 v l := Grw.base A hs
theorem GrwS.app {x y : Int} (A : GrwS h0 h v l) : ∀ (H : Heap), HSub h H → l.length + 1 ≤ 1073741824 → appendA H none 2 16 v 1 [.int .i64 x, .int .i64 y] = some (.slice H.size 0 (l.length + 1) (.unk 0), snocH H none v 2 (smps (l ++ [(x, y)]))) := by
  intro H hs hb
  rw [Grw.app A hs (by decide) (by omega) (by rfl), smps_snoc]
theorem GrwS.snoc {x y : Int} (A : GrwS h0 h v l) (hs : HSub h H) (hb : l.length + 1 ≤ 1073741824) : GrwS h0 (snocH H none v 2 (smps (l ++ [(x, y)]))) (.slice H.size 0 (l.length + 1) (.unk 0)) (l ++ [(x, y)]) := by
  have := Grw.snoc (news := [.int .i64 x, .int .i64 y]) (m := 1) A hs rfl (by omega)
  rw [smps_snoc] at this
  unfold GrwS; rw [List.length_append]; exact this
end
theorem contB_two {x y : AV} {u : Nat} {wr : Bool} : contB 1 2 0 (some (.cells [x, y] wr u)) = some (1, [x, y]) := rfl
section
variable {C : Ctx}
end
end Go.Ae

/- Two lists that grow side by side. -/
set_option linter.unusedSimpArgs false
set_option linter.unusedVariables false
namespace Go.Ae
def Dj (v w : AV) : Prop := ∀ i, i ∈ v.ids → i ∉ w.ids
theorem Dj.nilL {w : AV} : Dj .nilslice w := fun i hi => by simp [AV.ids] at hi
theorem Dj.nilR {v : AV} : Dj v .nilslice := fun i _ => by simp [AV.ids]
theorem Dj.symm {v w : AV} (h : Dj v w) : Dj w v := fun i hi hv => h i hv hi
section
variable {h0 h H : Heap} {sz sz' n m k k' : Nat} {v w : AV} {cs ds es : List AV} {c : Cap} {x : Int} {l l' : List Int}
theorem Grw.dj (B : Grw h0 h sz w n ds) (hk : h.size ≤ k) : Dj w (.slice k 0 k' c) := by
  obtain ⟨_, _, _, ⟨rfl, rfl⟩ | ⟨i, ex, hi, rfl, hg⟩⟩ := B
  · exact Dj.nilL
  · intro j hj
    have := Heap.lt_of_get hg
    simp only [AV.ids, List.mem_singleton] at hj ⊢
    omega
theorem Grw.keep (A : Grw h0 h sz' v m es) (B : Grw h0 h sz w n ds) (hs : HSub h H) (hd : Dj w v) : Grw h0 (snocH H none v sz' cs) sz w n ds := by
  have hsub : HSub h0 (snocH H none v sz' cs) := by
    obtain ⟨h1, _, _, ⟨rfl, rfl⟩ | ⟨i, ex, hi, rfl, hg⟩⟩ := A
    · exact (h1.trans hs).push _
    · exact ((h1.trans hs).put hi _).push _
  obtain ⟨h1, hl, hn, ⟨rfl, rfl⟩ | ⟨i, ex, hi, rfl, hg⟩⟩ := B
  · exact ⟨hsub, hl, hn, .inl ⟨rfl, rfl⟩⟩
  · refine ⟨hsub, hl, hn, .inr ⟨i, ex, hi, rfl, ?_⟩⟩
    have hlt := Heap.lt_of_get hg
    have hsz := hs.size
    have hH := (hs.get i hlt).trans hg
    obtain ⟨_, _, _, ⟨rfl, rfl⟩ | ⟨j, ex', hj, rfl, hg'⟩⟩ := A
    · exact (get_push_lt (by omega)).trans hH
    · have hne : i ≠ j := fun e => hd i (by simp [AV.ids]) (by simp [AV.ids, e])
      exact (get_push_lt (by simp only [Heap.size_put]; omega)).trans ((get_put_ne hne).trans hH)
theorem Grw.keepS (A : Grw h0 h sz' v m es) (B : Grw h0 h sz w n ds) (hs : HSub h H) (hk : h.size ≤ k ∧ k < H.size) (hd : Dj w v) : Grw h0 (snocH H (some k) v sz' cs) sz w n ds := by
  have hsub : HSub h0 (snocH H (some k) v sz' cs) := by
    have := A.sub.size
    obtain ⟨h1, _, _, ⟨rfl, rfl⟩ | ⟨i, ex, hi, rfl, hg⟩⟩ := A
    · exact (h1.trans hs).put (by omega) _
    · exact ((h1.trans hs).put hi _).put (by omega) _
  obtain ⟨h1, hl, hn, ⟨rfl, rfl⟩ | ⟨i, ex, hi, rfl, hg⟩⟩ := B
  · exact ⟨hsub, hl, hn, .inl ⟨rfl, rfl⟩⟩
  · refine ⟨hsub, hl, hn, .inr ⟨i, ex, hi, rfl, ?_⟩⟩
    have hlt := Heap.lt_of_get hg
    have hH := (hs.get i hlt).trans hg
    obtain ⟨_, _, _, ⟨rfl, rfl⟩ | ⟨j, ex', hj, rfl, hg'⟩⟩ := A
    · exact (get_put_ne (by omega)).trans hH
    · have hne : i ≠ j := fun e => hd i (by simp [AV.ids]) (by simp [AV.ids, e])
      exact (get_put_ne (by omega)).trans ((get_put_ne hne).trans hH)
theorem GrwI.keep (A : GrwI h0 h v l) (B : GrwI h0 h w l') (hs : HSub h H) (hd : Dj w v) : GrwI h0 (snocH H none v 1 (ints (l ++ [x]))) w l' := Grw.keep A B hs hd
theorem GrwI.keepS (A : GrwI h0 h v l) (B : GrwI h0 h w l') (hs : HSub h H) (hk : h.size ≤ k ∧ k < H.size) (hd : Dj w v) : GrwI h0 (snocH H (some k) v 1 (ints (l ++ [x]))) w l' := Grw.keepS A B hs hk hd
theorem GrwI.dj (B : GrwI h0 h w l) (hk : h.size ≤ k) : Dj w (.slice k 0 k' c) := Grw.dj B hk
end
end Go.Ae

/- Lists that grow in a region that draws its order, several at once. -/
set_option linter.unusedSimpArgs false
set_option linter.unusedVariables false
namespace Go.Ae
section
variable {h0 h H : Heap} {sz bytes n m k j x y : Nat} {v : AV} {cs news : List AV} {l : List (Int × Int)} {li : List Int}
theorem Grw.ids_lt (A : Grw h0 h sz v n cs) : ∀ i ∈ v.ids, h0.size ≤ i ∧ i < h.size := by
  obtain ⟨_, _, _, ⟨rfl, rfl⟩ | ⟨i, ex, hi, rfl, hg⟩⟩ := A
  · intro i hi; simp [AV.ids] at hi
  · intro j hj
    simp only [AV.ids, List.mem_singleton] at hj
    subst hj
    exact ⟨hi, Heap.lt_of_get hg⟩
theorem Grw.appG (A : Grw h0 h sz v n cs) (hg : ∀ i ∈ v.ids, H.get i = h.get i) (hk : h.size ≤ k ∧ k < H.size) (hm : m ≠ 0) (hb : (n + m) * bytes ≤ 1099511627776) (h1 : news.all AV.one = true) :
    appendA H (some k) sz bytes v m news = appK k H v (.slice k 0 (n + m) (.unk 0)) sz (cs ++ news) (H.get k) := by
  obtain ⟨_, hl, hn, ⟨rfl, rfl⟩ | ⟨i, ex, hi, rfl, hgi⟩⟩ := A
  · have : cs = [] := List.eq_nil_of_length_eq_zero (by omega)
    subst this
    exact Grw.appS (h0 := Heap.empty) (h := Heap.empty) (cs := []) (n := 0) ⟨HSub.refl _, by simp, by omega, .inl ⟨rfl, rfl⟩⟩ ⟨Nat.zero_le _, fun i hi => absurd hi (Nat.not_lt_zero i)⟩ ⟨Nat.zero_le _, hk.2⟩ hm hb h1
  · have e0 := (hg i (by simp [AV.ids])).trans hgi
    have hlt := Heap.lt_of_get hgi
    have hr : H.room (some k) = ((H.get k).isNone && decide (k < H.size)) := rfl
    simp only [appendA, e0]
    by_cases e : (H.get k).isNone = true
    · have e' : H.get k = none := by simpa using e
      rw [if_pos ⟨trivial, by omega, by rw [List.length_append]; omega, h1, hb, by rw [hr, e]; simpa using hk.2, by omega⟩, cut_pre hl]
      exact (congrArg (appK k H (.slice i 0 n (.unk 0)) (.slice k 0 (n + m) (.unk 0)) sz (cs ++ news)) e').symm
    · rw [if_neg (by rw [hr]; simp [e]), if_neg (by omega)]
      obtain ⟨b, e'⟩ : ∃ b, H.get k = some b := by cases x : H.get k with | none => simp [x] at e | some b => exact ⟨b, rfl⟩
      exact (congrArg (appK k H (.slice i 0 n (.unk 0)) (.slice k 0 (n + m) (.unk 0)) sz (cs ++ news)) e').symm
theorem snocS_size : (snocH H (some k) v sz cs).size = H.size := by unfold snocH; cases v <;> rfl
theorem snocS_same (hk : k < H.size) : (snocH H (some k) v sz cs).get k = some (.cells cs true sz) := by
  unfold snocH
  cases v <;> exact get_put_eq rfl (by simpa using hk)
theorem snocS_ne (hk : j ≠ k) (hv : j ∉ v.ids) : (snocH H (some k) v sz cs).get j = H.get j := by
  unfold snocH
  cases v
  case slice i o n c => exact (get_put_ne hk).trans (get_put_ne (fun e => hv (by simp [AV.ids, e])))
  all_goals exact get_put_ne hk
theorem snocS_sub {hB : Heap} (A : Grw hB h sz v n cs) {ds : List AV} (hs : HSub hB H) (hk : hB.size ≤ k) : HSub hB (snocH H (some k) v sz ds) := by
  obtain ⟨_, _, _, ⟨rfl, rfl⟩ | ⟨i, ex, hi, rfl, hg⟩⟩ := A
  · exact hs.put hk _
  · exact (hs.put hi _).put hk _
theorem GrwS.appG {a b : Int} (A : GrwS h0 h v l) (hg : ∀ i ∈ v.ids, H.get i = h.get i) (hk : h.size ≤ k ∧ k < H.size) (hb : l.length + 1 ≤ 1073741824) : appendA H (some k) 2 16 v 1 [.int .i64 a, .int .i64 b] = appK k H v (.slice k 0 (l.length + 1) (.unk 0)) 2 (smps (l ++ [(a, b)])) (H.get k) := by
  rw [Grw.appG A hg hk (by decide) (by omega) (by rfl), smps_snoc]
theorem GrwS.mk {K : Nat} (hs : HSub h0 h) (hk : h0.size ≤ k) (hl : K = l.length ∧ l.length < 9223372036854775808) (hg : h.get k = some (.cells (smps l) true 2)) : GrwS h0 h (.slice k 0 K (.unk 0)) l := by
  obtain ⟨rfl, hl⟩ := hl
  exact ⟨hs, smps_length, hl, .inr ⟨k, [], hk, rfl, by rw [List.append_nil]; exact hg⟩⟩
theorem SL.fldE {cs : List AV} (A : SL h sz v n cs) : ∀ (k off : Nat), k < n → fieldAddrA off (elA sz v k) = some (elF sz v k off) := by
  intro k off hk
  obtain ⟨_, _, ⟨rfl, h1⟩ | ⟨i, o, c, vs, wr, u, rfl, _⟩⟩ := A
  · omega
  · rfl
theorem SL.loadE {cs : List AV} (A : SL h sz v n cs) {k off : Nat} (hk : k < n) (ho : off < sz) : Ae.loadA h false 1 (elF sz v k off) = cs[k * sz + off]? := by
  obtain ⟨hl, hlt, ⟨rfl, h1⟩ | ⟨i, o, c, vs, wr, u, rfl, hg, hle, hc, _⟩⟩ := A
  · omega
  · have h1 : (k + 1) * sz ≤ n * sz := Nat.mul_le_mul_right sz hk
    have h2 : (k + 1) * sz = k * sz + sz := by rw [Nat.add_mul, Nat.one_mul]
    rw [← hc, cut, List.getElem?_take_of_lt (by omega), List.getElem?_drop]
    simp only [elF, Ae.loadA, hg, partA, Bool.false_eq_true, if_false]
    rw [Nat.add_assoc]
theorem Dj.not {v w : AV} (h : Dj v w) {i : Nat} (hi : i ∈ w.ids) : i ∉ v.ids := fun hv => h i hv hi
end
end Go.Ae

/- Codes with their samples, of the program. -/
set_option linter.unusedSimpArgs false
set_option linter.unusedVariables false
namespace Go.Ae
theorem sampL_length (d p : Int) (o : Nat) : (sampL d p o).length = lenN d * o := by rw [← sampP_full, sampP_length _ (Nat.le_refl _), codeL_length]
def sampErr (d o : Int) (ps : List Int) : Int := if knownErr d o = 0 ∧ ∀ p ∈ ps, codeErr d p = 0 then 0 else 2
def codeCells (vs : List AV) (o : Int) : List AV := vs.flatMap fun v => [v, .int .i64 o]
theorem codeCells_snoc (vs : List AV) (v : AV) (o : Int) : codeCells (vs ++ [v]) o = codeCells vs o ++ [v, .int .i64 o] := by simp [codeCells]
theorem codeCells_cut (o : Int) : ∀ (vs : List AV) (k : Nat), k < vs.length → cut (codeCells vs o) (k * 2) 2 = [vs.getD k .nilslice, .int .i64 o]
  | [], k, h => by simp at h
  | v :: vs, 0, _ => rfl
  | v :: vs, k + 1, h => by
    rw [show codeCells (v :: vs) o = v :: .int .i64 o :: codeCells vs o from rfl, show (k + 1) * 2 = k * 2 + 1 + 1 by omega, cut_succ, cut_succ, codeCells_cut o vs k (by simpa using h)]; rfl
structure CLs (h : Heap) (v : AV) (d o : Int) (ps : List Int) (vs : List AV) : Prop where
  sl : SL h 2 v ps.length (codeCells vs o)
  len : vs.length = ps.length
  ri : ∀ i, i < ps.length → RI h (vs.getD i .nilslice) (sampL d (ps.getD i 0) o.toNat)
theorem CLs.mono {h h' : Heap} {v : AV} {d o : Int} {ps : List Int} {vs : List AV} (H : CLs h v d o ps vs) (hs : HSub h h') : CLs h' v d o ps vs := ⟨H.sl.mono hs, H.len, fun i hi => (H.ri i hi).mono hs⟩
theorem grwI_mk {h0 h : Heap} {k K : Nat} {l : List Int} (hs : HSub h0 h) (hk : h0.size ≤ k) (hl : K = l.length ∧ l.length < 9223372036854775808) (hg : h.get k = some (.cells (ints l) true 1)) : GrwI h0 h (.slice k 0 K (.unk 0)) l := by
  obtain ⟨rfl, hl⟩ := hl
  exact Grw.fresh hs hk hl hg
section
variable {C : Ctx}
set_option maxHeartbeats 4000000 in
set_option maxRecDepth 20000 in
theorem sampled_specF (hC : Has C T142) {d o : Int} {vp : AV} {ps : List Int} {h : Heap} (hd : In64 d) (ho : In64 o) (hp : RI h vp ps) (hx : ∀ x ∈ ps, In64 x) (hpl : ps.length ≤ 1000) :
    ACalls C 142 [.int .i64 d, .int .i64 o, vp] h (fun r h' => ∃ v vs, r = lstErr v (sampErr d o ps) ∧ HSub h h' ∧ (sampErr d o ps = 0 → CLs h' v d o ps vs ∧ ∀ i, i < ps.length → GrwI h h' (vs.getD i .nilslice) (sampL d (ps.getD i 0) o.toNat))) := by
  have hplt := hp.lt
  by_cases ck : knownErr d o = 0
  · have pe : sampErr d o ps = if ∀ p ∈ ps, codeErr d p = 0 then 0 else 2 := by unfold sampErr; simp only [ck, true_and]
    have kr : lenOk d = true ∧ 1 ≤ o ∧ o ≤ 8 := by
      unfold knownErr at ck
      split at ck
      · assumption
      · cases ck
    obtain ⟨q, rfl⟩ := Int.eq_ofNat_of_zero_le (show 0 ≤ o by omega)
    have hN := lenN_eq kr.1
    (refine calls_intro (hC.body (by decide) tab142) (Nat.le_of_ble_eq_true rfl) ?_); (show wp C _ none B142.code _ _); (simp only [B142]); simp -implicitDefEqProofs (disch := first | assumption | decide | omega | (simp only [wpD1] <;> omega) | (simp only [wpD2] <;> assumption) | solve_by_elim [HSub.refl, HSub.push, HSub.reserve] | fail) only [↓wpPre, wpPost, wpPoly, Int.reduceToNat, Int.reducePow, Int.reduceMul, Int.reduceAdd, Int.reduceSub, Int.reduceNeg, Nat.reduceAdd, Nat.reduceMul, Nat.reducePow, Int.reduceLT, Int.reduceLE, Int.reduceEq, Nat.reduceEqDiff]
    refine ACallsK.eq (known09_spec (hC.sub (T' := T150) (by decide)) hd ho) ?_
    rw [ck]
    simp -implicitDefEqProofs (disch := first | assumption | decide | omega | (simp only [wpD1] <;> omega) | (simp only [wpD2] <;> assumption) | solve_by_elim [HSub.refl, HSub.push, HSub.reserve] | fail) only [↓wpPre, wpPost, wpPoly, Int.reduceToNat, Int.reducePow, Int.reduceMul, Int.reduceAdd, Int.reduceSub, Int.reduceNeg, Nat.reduceAdd, Nat.reduceMul, Nat.reducePow, Int.reduceLT, Int.reduceLE, Int.reduceEq, Nat.reduceEqDiff, hp.len]
    refine wp_loopI (fun j t h' => ∃ (k : Nat) (vs : List AV), Grw h h' 2 (t 9) k (codeCells vs (q : Nat)) ∧ vs.length = k ∧ (∀ i, i < k → GrwI h h' (vs.getD i .nilslice) (sampL d (ps.getD i 0) q) ∧ Dj (vs.getD i .nilslice) (t 9)) ∧ (∀ i, i < k → codeErr d (ps.getD i 0) = 0) ∧
      t 0 = .int .i64 d ∧ t 1 = .int .i64 (q : Nat) ∧ t 23 = vp ∧ t 24 = .int .i64 (ps.length : Nat) ∧ t 25 = .int .i64 (k : Nat) ∧ k ≤ ps.length ∧ j = ps.length - k) (j0 := ps.length)
      ⟨0, [], Grw.nil _ _, rfl, fun i hi => by omega, fun i hi => by omega, rfl, rfl, rfl, rfl, rfl, by omega, rfl⟩ ?_
    rintro j t h2 ⟨k, vs, A, hvl, hvs, hce, e0, e1, e23, e24, e25, hk, hj⟩
    simp -implicitDefEqProofs (disch := first | assumption | decide | omega | (simp only [wpD1] <;> omega) | (simp only [wpD2] <;> assumption) | solve_by_elim [HSub.refl, HSub.push, HSub.reserve] | fail) only [↓wpPre, wpPost, wpPoly, Int.reduceToNat, Int.reducePow, Int.reduceMul, Int.reduceAdd, Int.reduceSub, Int.reduceNeg, Nat.reduceAdd, Nat.reduceMul, Nat.reducePow, Int.reduceLT, Int.reduceLE, Int.reduceEq, Nat.reduceEqDiff, e24, e25]
    refine Br.by (fun c1 => ?_) (fun c1 => ?_)
    · have hk' : k < ps.length := by omega
      have hp2 := hp.mono A.sub
      have hxk := hx _ (getD_mem hk')
      obtain ⟨p, hpd⟩ : ∃ p, p = ps.getD k 0 := ⟨_, rfl⟩
      have hld := hp2.load hk'
      rw [← hpd] at hld hxk
      have hcode := Code_spec (hC.sub (T' := T76) (by decide)) (h := h2) hd hxk
      simp -implicitDefEqProofs (disch := first | assumption | decide | omega | (simp only [wpD1] <;> omega) | (simp only [wpD2] <;> assumption) | solve_by_elim [HSub.refl, HSub.push, HSub.reserve] | fail) only [↓wpPre, wpPost, wpPoly, Int.reduceToNat, Int.reducePow, Int.reduceMul, Int.reduceAdd, Int.reduceSub, Int.reduceNeg, Nat.reduceAdd, Nat.reduceMul, Nat.reducePow, Int.reduceLT, Int.reduceLE, Int.reduceEq, Nat.reduceEqDiff, e0, e1, e23, e25, hp2.idx, hld]
      refine ACallsK.of hcode ?_
      rintro r h3 ⟨v1, rfl, s1, R1, _⟩
      by_cases cc : codeErr d p = 0
      · rw [cc, if_pos rfl] at R1
        rw [cc]
        have cl := codeL_length d p
        simp -implicitDefEqProofs (disch := first | assumption | decide | omega | (simp only [wpD1] <;> omega) | (simp only [wpD2] <;> assumption) | solve_by_elim [HSub.refl, HSub.push, HSub.reserve] | fail) only [↓wpPre, wpPost, wpPoly, Int.reduceToNat, Int.reducePow, Int.reduceMul, Int.reduceAdd, Int.reduceSub, Int.reduceNeg, Nat.reduceAdd, Nat.reduceMul, Nat.reducePow, Int.reduceLT, Int.reduceLE, Int.reduceEq, Nat.reduceEqDiff, lstErr, e1, R1.len, cl]
        have R1' := R1.mono (HSub.push1 h3 (.cells [.nilslice, .int .i64 (q : Nat)] true 0))
        refine wp_loopI (fun j t' h' => ∃ (i : Nat) (w : AV), GrwI h3 h' w (sampP d p q i) ∧ Dj (.ptr h3.size 0) w ∧ h'.get h3.size = some (.cells [w, .int .i64 (q : Nat)] true 0) ∧ h3.size + 1 ≤ h'.size ∧
          t' 0 = .int .i64 d ∧ t' 1 = .int .i64 (q : Nat) ∧ t' 9 = t 9 ∧ t' 14 = .ptr h3.size 0 ∧ t' 23 = vp ∧ t' 24 = .int .i64 (ps.length : Nat) ∧ t' 25 = .int .i64 (k : Nat) ∧ t' 40 = v1 ∧ t' 41 = .int .i64 (lenN d : Nat) ∧ t' 42 = .int .i64 (i : Nat) ∧ i ≤ lenN d ∧ j = lenN d - i) (j0 := lenN d)
          ⟨0, .nilslice, GrwI.nil' (HSub.push1 _ _), Dj.nilR, get_push_eq rfl, by simp, e0, e1, rfl, rfl, e23, e24, e25, rfl, rfl, rfl, by omega, rfl⟩ ?_
        rintro j t' h4 ⟨i, w, B, dj, gb, hsz, e0', e1', e9', e14', e23', e24', e25', e40', e41', e42', hi, hj'⟩
        simp -implicitDefEqProofs (disch := first | assumption | decide | omega | (simp only [wpD1] <;> omega) | (simp only [wpD2] <;> assumption) | solve_by_elim [HSub.refl, HSub.push, HSub.reserve] | fail) only [↓wpPre, wpPost, wpPoly, Int.reduceToNat, Int.reducePow, Int.reduceMul, Int.reduceAdd, Int.reduceSub, Int.reduceNeg, Nat.reduceAdd, Nat.reduceMul, Nat.reducePow, Int.reduceLT, Int.reduceLE, Int.reduceEq, Nat.reduceEqDiff, e41', e42']
        refine Br.by (fun c2 => ?_) (fun c2 => ?_)
        · have hi' : i < lenN d := by omega
          have R4 := R1.mono B.sub
          have hl4 := R4.load (k := i) (by omega)
          obtain ⟨x, hx⟩ : ∃ x, x = (codeL d p).getD i 0 := ⟨_, rfl⟩
          rw [← hx] at hl4
          have rep := fun (H : Heap) (hg : H.get (h4.size + 3) = some (.cells [.int .i64 x] true 0)) => Repeat_spec (hC.sub (T' := T90) (by decide)) (v := .slice (h4.size + 3) 0 1 (.known 1)) (x := x) (n := q) (h := H) (RI.known hg ⟨rfl, by decide⟩ (by decide)) (by omega)
          simp -implicitDefEqProofs (disch := first | assumption | decide | omega | (simp only [wpD1] <;> omega) | (simp only [wpD2] <;> assumption) | solve_by_elim [HSub.refl, HSub.push, HSub.reserve] | fail) only [↓wpPre, wpPost, wpPoly, Int.reduceToNat, Int.reducePow, Int.reduceMul, Int.reduceAdd, Int.reduceSub, Int.reduceNeg, Nat.reduceAdd, Nat.reduceMul, Nat.reducePow, Int.reduceLT, Int.reduceLE, Int.reduceEq, Nat.reduceEqDiff, e1', e14', e40', e42', R4.idx, hl4, gb, Heap.wf]
          refine ACallsK.hide (fun H hH => ?_)
          have N : H.size = h4.size + 9 := by rw [hH]; simp -implicitDefEqProofs (disch := first | assumption | decide | omega | (simp only [wpD1] <;> omega) | (simp only [wpD2] <;> assumption) | solve_by_elim [HSub.refl, HSub.push, HSub.reserve] | fail) only [↓wpPre, wpPost, wpPoly, Int.reduceToNat, Int.reducePow, Int.reduceMul, Int.reduceAdd, Int.reduceSub, Int.reduceNeg, Nat.reduceAdd, Nat.reduceMul, Nat.reducePow, Int.reduceLT, Int.reduceLE, Int.reduceEq, Nat.reduceEqDiff]
          have g3 : H.get (h4.size + 3) = some (.cells [.int .i64 x] true 0) := by rw [hH]; simp -implicitDefEqProofs (disch := first | assumption | decide | omega | (simp only [wpD1] <;> omega) | (simp only [wpD2] <;> assumption) | solve_by_elim [HSub.refl, HSub.push, HSub.reserve] | fail) only [↓wpPre, wpPost, wpPoly, Int.reduceToNat, Int.reducePow, Int.reduceMul, Int.reduceAdd, Int.reduceSub, Int.reduceNeg, Nat.reduceAdd, Nat.reduceMul, Nat.reducePow, Int.reduceLT, Int.reduceLE, Int.reduceEq, Nat.reduceEqDiff]
          have gn : H.get (h4.size + 6) = none := by rw [hH]; simp -implicitDefEqProofs (disch := first | assumption | decide | omega | (simp only [wpD1] <;> omega) | (simp only [wpD2] <;> assumption) | solve_by_elim [HSub.refl, HSub.push, HSub.reserve] | fail) only [↓wpPre, wpPost, wpPoly, Int.reduceToNat, Int.reducePow, Int.reduceMul, Int.reduceAdd, Int.reduceSub, Int.reduceNeg, Nat.reduceAdd, Nat.reduceMul, Nat.reducePow, Int.reduceLT, Int.reduceLE, Int.reduceEq, Nat.reduceEqDiff, Heap.wf]
          have hs4 : HSub h4 H := by rw [hH]; exact (by repeat (first | exact HSub.refl _ | refine HSub.put ?_ (by (try simp only [Heap.size_put, Heap.size_push, Heap.size_reserve]); omega) _ | refine HSub.push ?_ _ | refine HSub.reserve ?_ _))
          clear hH
          refine ACallsK.of (rep H g3) ?_
          rintro r h5 F
          have F' := F
          obtain ⟨s5, fl, i5, hi5, rfl, g5⟩ := F'
          have z5 := s5.size
          have gb5 : h5.get h3.size = some (.cells [w, .int .i64 (q : Nat)] true 0) := (s5.get _ (by omega)).trans ((hs4.get _ (by omega)).trans gb)
          have gb6 : H.get h3.size = some (.cells [w, .int .i64 (q : Nat)] true 0) := (hs4.get _ (by omega)).trans gb
          have gn5 : h5.get (h4.size + 6) = none := (s5.get _ (by omega)).trans gn
          have sp := sampP_succ (d := d) (p := p) (o := q) (k := i) (by omega)
          rw [← hx] at sp
          have sl := sampP_length (d := d) (p := p) (o := q) i (by omega)
          have iq : i * q ≤ 1023 * 8 := Nat.mul_le_mul (by omega) (by omega)
          have ap := Grw.appG (H := h5) (k := h4.size + 6) (m := q) (bytes := 8) (news := ints (List.replicate q x)) B (fun j hj => (s5.get _ (by have := (Grw.ids_lt B j hj).2; omega)).trans (hs4.get _ (Grw.ids_lt B j hj).2)) ⟨by omega, by omega⟩ (by omega) (by rw [sl]; omega) ints_one
          rw [ints_append, ← sp] at ap
          have cF := F.ri.content
          simp only [List.length_replicate] at cF
          have cN : (List.replicate q x).length = q := List.length_replicate
          have hw : h3.size ∉ w.ids := dj _ (by simp [AV.ids])
          have gS : (snocH h5 (some (h4.size + 6)) w 1 (ints (sampP d p q (i + 1)))).get h3.size = some (.cells [w, .int .i64 (q : Nat)] true 0) := (snocS_ne (by omega) hw).trans gb5
          have zS : (snocH h5 (some (h4.size + 6)) w 1 (ints (sampP d p q (i + 1)))).size = h5.size := snocS_size
          have rS : (snocH h5 (some (h4.size + 6)) w 1 (ints (sampP d p q (i + 1)))).get (h4.size + 6) = some (.cells (ints (sampP d p q (i + 1))) true 1) := snocS_same (by omega)
          have bS := snocS_sub (k := h4.size + 6) (ds := ints (sampP d p q (i + 1))) B ((B.sub.trans hs4).trans s5) (by have := B.sub.size; omega)
          have sl2 := sampP_length (d := d) (p := p) (o := q) (i + 1) (by omega)
          have iq2 : (i + 1) * q ≤ 1023 * 8 := Nat.mul_le_mul (by omega) (by omega)
          have slq : (sampP d p q i).length + q = (sampP d p q (i + 1)).length := by rw [sp, List.length_append, List.length_replicate]
          simp -implicitDefEqProofs (disch := first | assumption | decide | omega | (simp only [wpD1] <;> omega) | (simp only [wpD2] <;> assumption) | solve_by_elim [HSub.refl, HSub.push, HSub.reserve] | fail) only [↓wpPre, wpPost, wpPoly, Int.reduceToNat, Int.reducePow, Int.reduceMul, Int.reduceAdd, Int.reduceSub, Int.reduceNeg, Nat.reduceAdd, Nat.reduceMul, Nat.reducePow, Int.reduceLT, Int.reduceLE, Int.reduceEq, Nat.reduceEqDiff, cN, gb5, gb6, gn5, cF, ap, appK_none, e14']
          refine ⟨gb.symm, ?_⟩
          simp -implicitDefEqProofs (disch := first | assumption | decide | omega | (simp only [wpD1] <;> omega) | (simp only [wpD2] <;> assumption) | solve_by_elim [HSub.refl, HSub.push, HSub.reserve] | fail) only [↓wpPre, wpPost, wpPoly, Int.reduceToNat, Int.reducePow, Int.reduceMul, Int.reduceAdd, Int.reduceSub, Int.reduceNeg, Nat.reduceAdd, Nat.reduceMul, Nat.reducePow, Int.reduceLT, Int.reduceLE, Int.reduceEq, Nat.reduceEqDiff, gS, e0', e1', e9', e14', e23', e24', e25', e40', e41', e42']
          refine ⟨_, ⟨i + 1, _, grwI_mk (bS.put (Nat.le_refl _) _) (by have := B.sub.size; omega) ⟨slq, by omega⟩ ((get_put_ne (by omega)).trans rS), ?_, rfl, by rw [zS]; omega, by simp, by omega, rfl⟩, by omega⟩
          intro j hj
          simp only [AV.ids, List.mem_singleton] at hj ⊢
          omega
        · have ei : i = lenN d := by omega
          subst ei
          have wone : w.one = true := (Grw.sl B).one
          have full : sampP d p q (lenN d) = sampL d p q := by rw [← sampP_full, codeL_length]
          rw [full] at B
          have A4 := A.mono (s1.trans B.sub)
          have hn1 : [w, AV.int .i64 (q : Nat)].all AV.one = true := by simp [wone, one_int]
          have ap := fun b => Grw.app A4 (bytes := 32) (m := 1) (news := [w, .int .i64 (q : Nat)]) (HSub.push1 h4 b) (by decide) (by omega) hn1
          have A5 := fun b => Grw.snoc A4 (m := 1) (news := [w, .int .i64 (q : Nat)]) (HSub.push1 h4 b) rfl (by omega)
          rw [← codeCells_snoc] at ap A5
          simp -implicitDefEqProofs (disch := first | assumption | decide | omega | (simp only [wpD1] <;> omega) | (simp only [wpD2] <;> assumption) | solve_by_elim [HSub.refl, HSub.push, HSub.reserve] | fail) only [↓wpPre, wpPost, wpPoly, Int.reduceToNat, Int.reducePow, Int.reduceMul, Int.reduceAdd, Int.reduceSub, Int.reduceNeg, Nat.reduceAdd, Nat.reduceMul, Nat.reducePow, Int.reduceLT, Int.reduceLE, Int.reduceEq, Nat.reduceEqDiff, e9', e14', gb, cont_slice, contB_two, ap, e0', e1', e23', e24', e25']
          have B0 : GrwI h h4 w (sampL d p q) := B.base (A.sub.trans s1)
          have z1 := s1.size
          have z4 := B.sub.size
          have dw : Dj w (t 9) := fun j hj hj9 => by
            have q1 := (Grw.ids_lt B j hj).1
            have q2 := (Grw.ids_lt A j hj9).2
            omega
          refine ⟨_, ⟨k + 1, vs ++ [w], A5 _, by simp [hvl], fun i hi => ?_, fun i hi => ?_, by simp, by omega, rfl⟩, by omega⟩
          · rcases Nat.lt_or_ge i k with x | x
            · have e : (vs ++ [w]).getD i .nilslice = vs.getD i .nilslice := by simp [List.getD_eq_getElem?_getD, List.getElem?_append_left (show i < vs.length by omega)]
              rw [e]
              have B1 := (hvs i x).1.mono (s1.trans B.sub)
              exact ⟨Grw.keep A4 B1 (HSub.push1 _ _) (hvs i x).2, Grw.dj B1 (by omega)⟩
            · have ei : i = k := by omega
              subst ei
              have e : (vs ++ [w]).getD i .nilslice = w := by simp [List.getD_eq_getElem?_getD, ← hvl]
              rw [e, ← hpd]
              exact ⟨Grw.keep A4 B0 (HSub.push1 _ _) dw, Grw.dj B0 (by omega)⟩
          · rcases Nat.lt_or_ge i k with x | x
            · exact hce i x
            · have ei : i = k := by omega
              subst ei
              rw [← hpd]; exact cc
      · have c2 : codeErr d p = 2 := by unfold codeErr at cc ⊢; split at cc <;> first | exact absurd rfl cc | (rename_i h; rw [if_neg h])
        rw [c2]
        simp -implicitDefEqProofs (disch := first | assumption | decide | omega | (simp only [wpD1] <;> omega) | (simp only [wpD2] <;> assumption) | solve_by_elim [HSub.refl, HSub.push, HSub.reserve] | fail) only [↓wpPre, wpPost, wpPoly, Int.reduceToNat, Int.reducePow, Int.reduceMul, Int.reduceAdd, Int.reduceSub, Int.reduceNeg, Nat.reduceAdd, Nat.reduceMul, Nat.reducePow, Int.reduceLT, Int.reduceLE, Int.reduceEq, Nat.reduceEqDiff, lstErr]
        have hne : ¬ ∀ p ∈ ps, codeErr d p = 0 := fun h => cc (h _ (by rw [hpd]; exact getD_mem hk'))
        rw [pe, if_neg hne]
        exact ⟨_, [], rfl, A.sub.trans s1, fun h => by cases h⟩
    · have ek : k = ps.length := by omega
      subst ek
      have hall : ∀ p ∈ ps, codeErr d p = 0 := fun p hp => by
        obtain ⟨i, hi, rfl⟩ := List.mem_iff_getElem.1 hp
        have := hce i hi
        rwa [List.getD_eq_getElem?_getD, List.getElem?_eq_getElem hi] at this
      rw [pe, if_pos hall]
      simp -implicitDefEqProofs (disch := first | assumption | decide | omega | (simp only [wpD1] <;> omega) | (simp only [wpD2] <;> assumption) | solve_by_elim [HSub.refl, HSub.push, HSub.reserve] | fail) only [↓wpPre, wpPost, wpPoly, Int.reduceToNat, Int.reducePow, Int.reduceMul, Int.reduceAdd, Int.reduceSub, Int.reduceNeg, Nat.reduceAdd, Nat.reduceMul, Nat.reducePow, Int.reduceLT, Int.reduceLE, Int.reduceEq, Nat.reduceEqDiff]
      exact ⟨_, vs, rfl, A.sub, fun _ => ⟨⟨A.sl, hvl, fun i hi => by rw [Int.toNat_natCast]; exact (hvs i hi).1.ri⟩, fun i hi => (hvs i hi).1⟩⟩
  · have pe : sampErr d o ps = 2 := by unfold sampErr; rw [if_neg (fun h => ck h.1)]
    have ck2 : knownErr d o = 2 := by unfold knownErr at ck ⊢; split at ck <;> first | exact absurd rfl ck | (rename_i h; rw [if_neg h])
    rw [pe]
    (refine calls_intro (hC.body (by decide) tab142) (Nat.le_of_ble_eq_true rfl) ?_); (show wp C _ none B142.code _ _); (simp only [B142]); simp -implicitDefEqProofs (disch := first | assumption | decide | omega | (simp only [wpD1] <;> omega) | (simp only [wpD2] <;> assumption) | solve_by_elim [HSub.refl, HSub.push, HSub.reserve] | fail) only [↓wpPre, wpPost, wpPoly, Int.reduceToNat, Int.reducePow, Int.reduceMul, Int.reduceAdd, Int.reduceSub, Int.reduceNeg, Nat.reduceAdd, Nat.reduceMul, Nat.reducePow, Int.reduceLT, Int.reduceLE, Int.reduceEq, Nat.reduceEqDiff]
    refine ACallsK.eq (known09_spec (hC.sub (T' := T150) (by decide)) hd ho) ?_
    rw [ck2]
    simp -implicitDefEqProofs (disch := first | assumption | decide | omega | (simp only [wpD1] <;> omega) | (simp only [wpD2] <;> assumption) | solve_by_elim [HSub.refl, HSub.push, HSub.reserve] | fail) only [↓wpPre, wpPost, wpPoly, Int.reduceToNat, Int.reducePow, Int.reduceMul, Int.reduceAdd, Int.reduceSub, Int.reduceNeg, Nat.reduceAdd, Nat.reduceMul, Nat.reducePow, Int.reduceLT, Int.reduceLE, Int.reduceEq, Nat.reduceEqDiff]
    exact ⟨_, [], rfl, HSub.refl _⟩
theorem sampled_spec (hC : Has C T142) {d o : Int} {vp : AV} {ps : List Int} {h : Heap} (hd : In64 d) (ho : In64 o) (hp : RI h vp ps) (hx : ∀ x ∈ ps, In64 x) (hpl : ps.length ≤ 1000) :
    ACalls C 142 [.int .i64 d, .int .i64 o, vp] h (fun r h' => ∃ v vs, r = lstErr v (sampErr d o ps) ∧ HSub h h' ∧ (sampErr d o ps = 0 → CLs h' v d o ps vs)) :=
  (sampled_specF hC hd ho hp hx hpl).mono fun _ _ ⟨v, vs, q1, q2, q3⟩ => ⟨v, vs, q1, q2, fun e => (q3 e).1⟩
end
end Go.Ae

/- The samples of a code, of the program; the samples by their places. -/
set_option linter.unusedSimpArgs false
set_option linter.unusedVariables false
namespace Go.Ae
theorem sampErr_one (d o p : Int) : sampErr d o [p] = if knownErr d o = 0 ∧ codeErr d p = 0 then 0 else 2 := by simp [sampErr]
section
variable {C : Ctx}
theorem SamplesC_spec (hC : Has C T131) {d o p : Int} {h : Heap} (hd : In64 d) (ho : In64 o) (hp : In64 p) :
    ACalls C 131 [.int .i64 d, .int .i64 o, .int .i64 p] h (fun r h' => ∃ v, r = lstErr v (sampErr d o [p]) ∧ HSub h h' ∧ RI h' v (if sampErr d o [p] = 0 then sampL d p o.toNat else [])) := by
  have hsd := fun (h : Heap) (i : Nat) (hg : h.get i = some (.cells [.int .i64 p] true 0)) => sampled_spec (hC.sub (T' := T142) (by decide)) (vp := .slice i 0 1 (.known 1)) (ps := [p]) (h := h) hd ho (RI.known hg ⟨rfl, by decide⟩ (by decide)) (by simpa using hp) (by simp)
  (refine calls_intro (hC.body (by decide) tab131) (Nat.le_of_ble_eq_true rfl) ?_); (show wp C _ none B131.code _ _); (simp only [B131]); simp -implicitDefEqProofs (disch := first | assumption | decide | omega | (simp only [wpD1] <;> omega) | (simp only [wpD2] <;> assumption) | solve_by_elim [HSub.refl, HSub.push, HSub.reserve] | fail) only [↓wpPre, wpPost, wpPoly, Int.reduceToNat, Int.reducePow, Int.reduceMul, Int.reduceAdd, Int.reduceSub, Int.reduceNeg, Nat.reduceAdd, Nat.reduceMul, Nat.reducePow, Int.reduceLT, Int.reduceLE, Int.reduceEq, Nat.reduceEqDiff]
  refine ACallsK.of (hsd _ _ (get_push_eq rfl)) ?_
  rintro r h1 ⟨v, vs, rfl, s1, hcl⟩
  by_cases c : sampErr d o [p] = 0
  · have cl := hcl c
    rw [c, if_pos rfl]
    obtain ⟨w, rfl⟩ : ∃ w, vs = [w] := by
      have := cl.len
      match vs, this with
      | [w], _ => exact ⟨w, rfl⟩
    have ld := cl.sl.loadE (k := 0) (off := 0) (by simp) (by decide)
    rw [show (codeCells [w] o)[0 * 2 + 0]? = some w from rfl] at ld
    have ix : idxA 2 v (.int .i64 0) = some (elA 2 v 0) := cl.sl.idx (k := 0) (by simp)
    have fx : fieldAddrA 0 (elA 2 v 0) = some (elF 2 v 0 0) := cl.sl.fldE 0 0 (by simp)
    simp -implicitDefEqProofs (disch := first | assumption | decide | omega | (simp only [wpD1] <;> omega) | (simp only [wpD2] <;> assumption) | solve_by_elim [HSub.refl, HSub.push, HSub.reserve] | fail) only [↓wpPre, wpPost, wpPoly, Int.reduceToNat, Int.reducePow, Int.reduceMul, Int.reduceAdd, Int.reduceSub, Int.reduceNeg, Nat.reduceAdd, Nat.reduceMul, Nat.reducePow, Int.reduceLT, Int.reduceLE, Int.reduceEq, Nat.reduceEqDiff, lstErr, ix, fx, ld]
    exact ⟨_, rfl, (HSub.push1 _ _).trans s1, cl.ri 0 (by simp)⟩
  · have e2 : sampErr d o [p] = 2 := by unfold sampErr at c ⊢; split at c <;> first | exact absurd rfl c | (rename_i h; rw [if_neg h])
    rw [e2, if_neg (by decide)]
    simp -implicitDefEqProofs (disch := first | assumption | decide | omega | (simp only [wpD1] <;> omega) | (simp only [wpD2] <;> assumption) | solve_by_elim [HSub.refl, HSub.push, HSub.reserve] | fail) only [↓wpPre, wpPost, wpPoly, Int.reduceToNat, Int.reducePow, Int.reduceMul, Int.reduceAdd, Int.reduceSub, Int.reduceNeg, Nat.reduceAdd, Nat.reduceMul, Nat.reducePow, Int.reduceLT, Int.reduceLE, Int.reduceEq, Nat.reduceEqDiff, lstErr]
    exact ⟨_, rfl, (HSub.push1 _ _).trans s1, RI.nil⟩
end
end Go.Ae

/- Parts of placements and their greatest sum, in plain numbers. -/
set_option linter.unusedSimpArgs false
set_option linter.unusedVariables false
namespace Go.Ae
def pf (a b : List Int) (m s : Int) : Nat → Int
  | 0 => 0
  | k + 1 => pf a b m s k + a.getD k 0 * b.getD (min ((k : Int) - m + a.length + s) ((a.length : Int) - 1)).toNat 0
def ps (a b : List Int) (m : Nat) : Nat → Int
  | 0 => 0
  | k + 1 => ps a b m k + a.getD (m + k) 0 * b.getD k 0
def one1 (l : List Int) : Prop := ∀ x ∈ l, -1 ≤ x ∧ x ≤ 1
theorem one1.get {l : List Int} (h : one1 l) (i : Nat) : -1 ≤ l.getD i 0 ∧ l.getD i 0 ≤ 1 := by
  by_cases c : i < l.length
  · exact h _ (getD_mem c)
  · rw [List.getD_eq_getElem?_getD, List.getElem?_eq_none (by omega)]; decide
theorem mul_one1 {x y : Int} (hx : -1 ≤ x ∧ x ≤ 1) (hy : -1 ≤ y ∧ y ≤ 1) : -1 ≤ x * y ∧ x * y ≤ 1 := by
  have h : x = -1 ∨ x = 0 ∨ x = 1 := by omega
  rcases h with rfl | rfl | rfl <;> omega
theorem pf_le {a b : List Int} {m s : Int} (ha : one1 a) (hb : one1 b) : ∀ k : Nat, -(k : Int) ≤ pf a b m s k ∧ pf a b m s k ≤ k
  | 0 => by simp [pf]
  | k + 1 => by
    have ih := pf_le ha hb (m := m) (s := s) k
    have := mul_one1 (ha.get k) (hb.get (min ((k : Int) - m + a.length + s) ((a.length : Int) - 1)).toNat)
    rw [pf]; omega
theorem ps_le {a b : List Int} {m : Nat} (ha : one1 a) (hb : one1 b) : ∀ k : Nat, -(k : Int) ≤ ps a b m k ∧ ps a b m k ≤ k
  | 0 => by simp [ps]
  | k + 1 => by
    have ih := ps_le ha hb (m := m) k
    have := mul_one1 (ha.get (m + k)) (hb.get k)
    rw [ps]; omega
def plc (a b : List Int) (s : Int) (m : Nat) : Int := max (pf a b m s m) (-pf a b m s m) + max (ps a b m (a.length - m)) (-ps a b m (a.length - m))
theorem plc_le {a b : List Int} (ha : one1 a) (hb : one1 b) {s : Int} {m : Nat} (hm : m ≤ a.length) : 0 ≤ plc a b s m ∧ plc a b s m ≤ a.length := by
  have h1 := pf_le ha hb (m := m) (s := s) m
  have h2 := ps_le ha hb (m := m) (a.length - m)
  unfold plc
  omega
def gM (a b : List Int) (s : Int) (lo : Nat) : Nat → Int → Int
  | 0, x => x
  | k + 1, x => max (gM a b s lo k x) (plc a b s (lo + k))
def lastM (n : Nat) (mg s : Int) : Int := if 0 < mg then n + s - mg else n + min s 0
def cntM (n : Nat) (mg s : Int) : Nat := (lastM n mg s + 1 - mg).toNat
def greatI (a b : List Int) (mg : Nat) : Int := gM a b 1 mg (cntM a.length mg 1) (gM a b 0 mg (cntM a.length mg 0) (gM a b (-1) mg (cntM a.length mg (-1)) 0))
theorem gM_le {a b : List Int} (ha : one1 a) (hb : one1 b) {s : Int} {lo : Nat} : ∀ (k : Nat) (x : Int), lo + k ≤ a.length + 1 → 0 ≤ x ∧ x ≤ a.length → 0 ≤ gM a b s lo k x ∧ gM a b s lo k x ≤ a.length
  | 0, x, _, hx => hx
  | k + 1, x, hk, hx => by
    have ih := gM_le ha hb (s := s) (lo := lo) k x (by omega) hx
    have := plc_le ha hb (s := s) (m := lo + k) (by omega)
    rw [gM]; omega
theorem sampL_one1 (d p : Int) (o : Nat) : one1 (sampL d p o) := by
  intro x hx
  unfold sampL at hx
  obtain ⟨l, hl, hxl⟩ := List.mem_flatten.1 hx
  obtain ⟨y, hy, rfl⟩ := List.mem_map.1 hl
  have := codeL_range y hy
  rw [(List.mem_replicate.1 hxl).2]; exact this
end Go.Ae

/- Absolute values, sums and bounds of lists. -/
set_option linter.unusedSimpArgs false
set_option linter.unusedVariables false
namespace Go.Ae
def absI (x : Int) : Int := max x (-x)
def sumAbs : List Int → Int
  | [] => 0
  | x :: l => absI x + sumAbs l
def maxAbs : List Int → Int
  | [] => 0
  | x :: l => max (absI x) (maxAbs l)
theorem absI_nonneg (x : Int) : 0 ≤ absI x := by unfold absI; omega
theorem sumAbs_nonneg : ∀ l, 0 ≤ sumAbs l
  | [] => by simp [sumAbs]
  | x :: l => by have := sumAbs_nonneg l; have := absI_nonneg x; simp only [sumAbs]; omega
theorem maxAbs_nonneg : ∀ l, 0 ≤ maxAbs l
  | [] => by simp [maxAbs]
  | x :: l => by have := maxAbs_nonneg l; have := absI_nonneg x; simp only [maxAbs]; omega
theorem maxAbs_le : ∀ {l : List Int} {x : Int}, x ∈ l → absI x ≤ maxAbs l
  | y :: l, x, h => by
    simp only [maxAbs]
    rcases List.mem_cons.1 h with rfl | h
    · omega
    · have := maxAbs_le h; omega
theorem sumAbs_append (l m : List Int) : sumAbs (l ++ m) = sumAbs l + sumAbs m := by
  induction l with
  | nil => simp [sumAbs]
  | cons x l ih => simp only [List.cons_append, sumAbs, ih]; omega
theorem sumAbs_take {l : List Int} {i : Nat} (h : i < l.length) : sumAbs (l.take (i + 1)) = sumAbs (l.take i) + absI (l.getD i 0) := by
  rw [take_succ_getD h, sumAbs_append]; simp [sumAbs]
theorem sumAbs_take_le (l : List Int) (i : Nat) : sumAbs (l.take i) ≤ sumAbs l := by
  have := sumAbs_append (l.take i) (l.drop i)
  rw [List.take_append_drop] at this
  have := sumAbs_nonneg (l.drop i); omega
theorem absI_mul (x y : Int) : absI (x * y) = absI x * absI y := by
  unfold absI
  rcases Int.le_total 0 x with hx | hx <;> rcases Int.le_total 0 y with hy | hy
  · have := Int.mul_nonneg hx hy
    rw [Int.max_eq_left (by omega), Int.max_eq_left (by omega), Int.max_eq_left (by omega)]
  · have := Int.mul_nonpos_of_nonneg_of_nonpos hx hy
    rw [Int.max_eq_right (by omega), Int.max_eq_left (by omega), Int.max_eq_right (by omega), Int.mul_neg]
  · have := Int.mul_nonpos_of_nonpos_of_nonneg hx hy
    rw [Int.max_eq_right (by omega), Int.max_eq_right (by omega), Int.max_eq_left (by omega), Int.neg_mul]
  · have := Int.mul_nonneg_of_nonpos_of_nonpos hx hy
    rw [Int.max_eq_left (by omega), Int.max_eq_right (by omega), Int.max_eq_right (by omega), Int.neg_mul_neg]
theorem absI_add (x y : Int) : absI (x + y) ≤ absI x + absI y := by unfold absI; omega
theorem absI_le {x b : Int} (h : absI x ≤ b) : -b ≤ x ∧ x ≤ b := by unfold absI at h; omega

def small (l : List Int) : Prop := ∀ x ∈ l, -1000000 ≤ x ∧ x ≤ 1000000
theorem small_abs {l : List Int} (h : small l) {i : Nat} (hi : i < l.length) : absI (l.getD i 0) ≤ 1000000 := by
  have := h _ (getD_mem hi); unfold absI; omega
theorem sumAbs_small {l : List Int} (h : small l) : sumAbs l ≤ 1000000 * l.length := by
  induction l with
  | nil => simp [sumAbs]
  | cons x l ih =>
    have h1 := ih (fun y hy => h y (List.mem_cons_of_mem _ hy))
    have h2 := h x List.mem_cons_self
    simp only [sumAbs, List.length_cons, absI]; omega
theorem maxAbs_small {l : List Int} (h : small l) : maxAbs l ≤ 1000000 := by
  induction l with
  | nil => simp [maxAbs]
  | cons x l ih =>
    have h1 := ih (fun y hy => h y (List.mem_cons_of_mem _ hy))
    have h2 := h x List.mem_cons_self
    simp only [maxAbs, absI]; omega
theorem range_get {N m : Nat} {f : Nat → Int} (h : m < N) : ((List.range N).map f).getD m 0 = f m := by simp [h]
theorem range_set {N m : Nat} {f g : Nat → Int} {y : Int} (hm : g m = y) (hn : ∀ n, n ≠ m → g n = f n) : ((List.range N).map f).set m y = (List.range N).map g := by
  refine List.ext_getElem (by simp) fun n h1 h2 => ?_
  simp only [List.length_set, List.length_map, List.length_range] at h1
  rw [List.getElem_set]
  split
  · rename_i e; subst e; simp [hm]
  · rename_i e; simp [hn n (Ne.symm e)]

def bigs (x : Int) : Bool := decide (x < -1000000 ∨ 1000000 < x)
theorem small_of {l : List Int} (h : l.any bigs = false) : small l := fun x hx => by
  have := List.any_eq_false.1 h x hx
  simp only [bigs, decide_eq_true_eq] at this; omega
end Go.Ae

/- Circular sums of the reference of layer 9. -/
set_option linter.unusedSimpArgs false
set_option linter.unusedVariables false
namespace Go.Ae

def cs (a b : List Int) (k : Nat) : Nat → Int
  | 0 => 0
  | i + 1 => cs a b k i + a.getD i 0 * b.getD ((i + k) % b.length) 0
def circ (a b : List Int) : List Int := (List.range a.length).map fun k => cs a b k a.length
theorem circ_length (a b : List Int) : (circ a b).length = a.length := by simp [circ]
theorem cs_abs (a b : List Int) (k : Nat) (hb : 1 ≤ b.length) : ∀ i, i ≤ a.length → absI (cs a b k i) ≤ sumAbs (a.take i) * maxAbs b
  | 0, _ => by simp [cs, absI, sumAbs]
  | i + 1, hi => by
    have ih := cs_abs a b k hb i (by omega)
    have h2 := absI_add (cs a b k i) (a.getD i 0 * b.getD ((i + k) % b.length) 0)
    have h3 : absI (a.getD i 0 * b.getD ((i + k) % b.length) 0) ≤ absI (a.getD i 0) * maxAbs b := by
      rw [absI_mul]
      exact Int.mul_le_mul_of_nonneg_left (maxAbs_le (getD_mem (Nat.mod_lt _ (by omega)))) (absI_nonneg _)
    rw [sumAbs_take (by omega), Int.add_mul]
    simp only [cs]; omega

def cpre (a b : List Int) (k i n : Nat) : Int := if n < k then cs a b n a.length else if n = k then cs a b k i else 0

section
variable {C : Ctx}
end
end Go.Ae

/- Circular of the references. -/
set_option linter.unusedSimpArgs false
set_option linter.unusedVariables false
namespace Go.Ae

def circErr (a b : List Int) : Int :=
  if a.length = 0 then 3 else if 8192 < a.length then 4 else if a.length ≠ b.length then 10 else if a.any bigs = true ∨ b.any bigs = true then 2 else 0

section
variable {C : Ctx}
end
end Go.Ae

/- Circular of the program's package cross. -/
set_option linter.unusedSimpArgs false
set_option linter.unusedVariables false
namespace Go.Ae
section
variable {C : Ctx}
theorem bigs46_spec (hC : Has C T46) {x : Int} {h : Heap} : ACalls C 46 [.int .i64 x] h (fun r h' => r = .bool (bigs x) ∧ h' = h) := by
  (refine calls_intro (hC.body (by decide) tab46) (Nat.le_of_ble_eq_true rfl) ?_); (show wp C _ none B46.code _ _); (simp only [B46]); simp -implicitDefEqProofs (disch := first | assumption | decide | omega | (simp only [wpD1] <;> omega) | (simp only [wpD2] <;> assumption) | solve_by_elim [HSub.refl, HSub.push, HSub.reserve] | fail) only [↓wpPre, wpPost, wpPoly, Int.reduceToNat, Int.reducePow, Int.reduceMul, Int.reduceAdd, Int.reduceSub, Int.reduceNeg, Nat.reduceAdd, Nat.reduceMul, Nat.reducePow, Int.reduceLT, Int.reduceLE, Int.reduceEq, Nat.reduceEqDiff]
  (repeat' (first | (refine Br.by (fun _ => ?_) (fun _ => ?_)) | (simp -implicitDefEqProofs (disch := first | assumption | decide | omega | (simp only [wpD1] <;> omega) | (simp only [wpD2] <;> assumption) | solve_by_elim [HSub.refl, HSub.push, HSub.reserve] | fail) only [↓wpPre, wpPost, wpPoly, Int.reduceToNat, Int.reducePow, Int.reduceMul, Int.reduceAdd, Int.reduceSub, Int.reduceNeg, Nat.reduceAdd, Nat.reduceMul, Nat.reducePow, Int.reduceLT, Int.reduceLE, Int.reduceEq, Nat.reduceEqDiff])))
  all_goals (simp [bigs]; omega)
theorem twice_get {b : List Int} {i k : Nat} (hi : i < b.length) (hk : k < b.length) : (b ++ b).getD (k + i) 0 = b.getD ((i + k) % b.length) 0 := by
  simp only [List.getD_eq_getElem?_getD]
  by_cases c : i + k < b.length
  · rw [Nat.mod_eq_of_lt c, List.getElem?_append_left (by omega), Nat.add_comm]
  · rw [List.getElem?_append_right (by omega), Nat.mod_eq_sub_mod (by omega), Nat.mod_eq_of_lt (by omega), Nat.add_comm]

set_option maxHeartbeats 1000000 in
theorem CircP_specF (hC : Has C T25) {va vb : AV} {a b : List Int} {h : Heap} (ha : RI h va a) (hb : RI h vb b) :
    ACalls C 25 [va, vb] h (fun r h' => ∃ v', r = lstErr v' (circErr a b) ∧ HSub h h' ∧ RI h' v' (if circErr a b = 0 then circ a b else []) ∧ (circErr a b = 0 → Fresh h h' v' (circ a b))) := by
  have asks : ∀ {l : List Int} {h : Heap}, Asks C (.func 46 [] []) bigs l h := fun {l h} => ⟨46, [], rfl, fun x _ => bigs46_spec (hC.sub (T' := T46) (by decide))⟩
  have l1 := ha.lt
  have l2 := hb.lt
  have c0 := hb.cells
  have o0 := hb.one
  have fin : ∀ e, circErr a b = e → e ≠ 0 → ∃ v', AV.tuple [.nilslice, .int .i64 e] = lstErr v' (circErr a b) ∧ HSub h h ∧ RI h v' (if circErr a b = 0 then circ a b else []) ∧ (circErr a b = 0 → Fresh h h v' (circ a b)) := fun e h0 he => ⟨.nilslice, by rw [h0, lstErr], HSub.refl _, by rw [if_neg (by rw [h0]; exact he)]; exact RI.nil, fun q => absurd (h0.symm.trans q) he⟩
  have pe : circErr a b = if a.length = 0 then 3 else if 8192 < a.length then 4 else if a.length ≠ b.length then 10 else if a.any bigs = true ∨ b.any bigs = true then 2 else 0 := rfl
  by_cases c0 : a.length = 0
  · rw [if_pos c0] at pe
    (refine calls_intro (hC.body (by decide) tab25) (Nat.le_of_ble_eq_true rfl) ?_); (show wp C _ none B25.code _ _); (simp only [B25]); simp -implicitDefEqProofs (disch := first | assumption | decide | omega | (simp only [wpD1] <;> omega) | (simp only [wpD2] <;> assumption) | solve_by_elim [HSub.refl, HSub.push, HSub.reserve] | fail) only [↓wpPre, wpPost, wpPoly, Int.reduceToNat, Int.reducePow, Int.reduceMul, Int.reduceAdd, Int.reduceSub, Int.reduceNeg, Nat.reduceAdd, Nat.reduceMul, Nat.reducePow, Int.reduceLT, Int.reduceLE, Int.reduceEq, Nat.reduceEqDiff, ha.len]
    exact fin 3 pe (by decide)
  rw [if_neg c0] at pe
  by_cases c1 : 8192 < a.length
  · rw [if_pos c1] at pe
    (refine calls_intro (hC.body (by decide) tab25) (Nat.le_of_ble_eq_true rfl) ?_); (show wp C _ none B25.code _ _); (simp only [B25]); simp -implicitDefEqProofs (disch := first | assumption | decide | omega | (simp only [wpD1] <;> omega) | (simp only [wpD2] <;> assumption) | solve_by_elim [HSub.refl, HSub.push, HSub.reserve] | fail) only [↓wpPre, wpPost, wpPoly, Int.reduceToNat, Int.reducePow, Int.reduceMul, Int.reduceAdd, Int.reduceSub, Int.reduceNeg, Nat.reduceAdd, Nat.reduceMul, Nat.reducePow, Int.reduceLT, Int.reduceLE, Int.reduceEq, Nat.reduceEqDiff, ha.len]
    exact fin 4 pe (by decide)
  rw [if_neg c1] at pe
  by_cases c2 : a.length ≠ b.length
  · rw [if_pos c2] at pe
    (refine calls_intro (hC.body (by decide) tab25) (Nat.le_of_ble_eq_true rfl) ?_); (show wp C _ none B25.code _ _); (simp only [B25]); simp -implicitDefEqProofs (disch := first | assumption | decide | omega | (simp only [wpD1] <;> omega) | (simp only [wpD2] <;> assumption) | solve_by_elim [HSub.refl, HSub.push, HSub.reserve] | fail) only [↓wpPre, wpPost, wpPoly, Int.reduceToNat, Int.reducePow, Int.reduceMul, Int.reduceAdd, Int.reduceSub, Int.reduceNeg, Nat.reduceAdd, Nat.reduceMul, Nat.reducePow, Int.reduceLT, Int.reduceLE, Int.reduceEq, Nat.reduceEqDiff, ha.len, hb.len]
    exact fin 10 pe (by decide)
  have c2' : a.length = b.length := by omega
  rw [if_neg c2] at pe
  (refine calls_intro (hC.body (by decide) tab25) (Nat.le_of_ble_eq_true rfl) ?_); (show wp C _ none B25.code _ _); (simp only [B25]); simp -implicitDefEqProofs (disch := first | assumption | decide | omega | (simp only [wpD1] <;> omega) | (simp only [wpD2] <;> assumption) | solve_by_elim [HSub.refl, HSub.push, HSub.reserve] | fail) only [↓wpPre, wpPost, wpPoly, Int.reduceToNat, Int.reducePow, Int.reduceMul, Int.reduceAdd, Int.reduceSub, Int.reduceNeg, Nat.reduceAdd, Nat.reduceMul, Nat.reducePow, Int.reduceLT, Int.reduceLE, Int.reduceEq, Nat.reduceEqDiff, ha.len, hb.len]
  refine ACallsK.eq (ContainsFunc_spec (hC.sub (T' := T37) (by decide)) ha asks) ?_
  by_cases hA : a.any bigs = true
  · rw [if_pos (.inl hA)] at pe
    simp -implicitDefEqProofs (disch := first | assumption | decide | omega | (simp only [wpD1] <;> omega) | (simp only [wpD2] <;> assumption) | solve_by_elim [HSub.refl, HSub.push, HSub.reserve] | fail) only [↓wpPre, wpPost, wpPoly, Int.reduceToNat, Int.reducePow, Int.reduceMul, Int.reduceAdd, Int.reduceSub, Int.reduceNeg, Nat.reduceAdd, Nat.reduceMul, Nat.reducePow, Int.reduceLT, Int.reduceLE, Int.reduceEq, Nat.reduceEqDiff]
    exact fin 2 pe (by decide)
  simp -implicitDefEqProofs (disch := first | assumption | decide | omega | (simp only [wpD1] <;> omega) | (simp only [wpD2] <;> assumption) | solve_by_elim [HSub.refl, HSub.push, HSub.reserve] | fail) only [↓wpPre, wpPost, wpPoly, Int.reduceToNat, Int.reducePow, Int.reduceMul, Int.reduceAdd, Int.reduceSub, Int.reduceNeg, Nat.reduceAdd, Nat.reduceMul, Nat.reducePow, Int.reduceLT, Int.reduceLE, Int.reduceEq, Nat.reduceEqDiff]
  refine ACallsK.eq (ContainsFunc_spec (hC.sub (T' := T37) (by decide)) hb asks) ?_
  by_cases hB : b.any bigs = true
  · rw [if_pos (.inr hB)] at pe
    simp -implicitDefEqProofs (disch := first | assumption | decide | omega | (simp only [wpD1] <;> omega) | (simp only [wpD2] <;> assumption) | solve_by_elim [HSub.refl, HSub.push, HSub.reserve] | fail) only [↓wpPre, wpPost, wpPoly, Int.reduceToNat, Int.reducePow, Int.reduceMul, Int.reduceAdd, Int.reduceSub, Int.reduceNeg, Nat.reduceAdd, Nat.reduceMul, Nat.reducePow, Int.reduceLT, Int.reduceLE, Int.reduceEq, Nat.reduceEqDiff]
    exact fin 2 pe (by decide)
  rw [if_neg (by rintro (h | h) <;> contradiction)] at pe
  have sa := small_of (Bool.eq_false_iff.2 hA)
  have sb := small_of (Bool.eq_false_iff.2 hB)
  simp -implicitDefEqProofs (disch := first | assumption | decide | omega | (simp only [wpD1] <;> omega) | (simp only [wpD2] <;> assumption) | solve_by_elim [HSub.refl, HSub.push, HSub.reserve] | fail) only [↓wpPre, wpPost, wpPoly, Int.reduceToNat, Int.reducePow, Int.reduceMul, Int.reduceAdd, Int.reduceSub, Int.reduceNeg, Nat.reduceAdd, Nat.reduceMul, Nat.reducePow, Int.reduceLT, Int.reduceLE, Int.reduceEq, Nat.reduceEqDiff]
  have s1 := sumAbs_small sa
  have s2 := sumAbs_nonneg a
  have s3 := maxAbs_small sb
  have s4 := maxAbs_nonneg b
  have p2 : sumAbs a * maxAbs b ≤ 8192000000 * 1000000 := Int.mul_le_mul (by omega) s3 s4 (by omega)
  have hbb : RI (h.push (.cells [vb, vb] true 0)) vb b := hb.mono (HSub.push1 _ _)
  have efl : flatP [(vb, b), (vb, b)] = b ++ b := by simp [flatP]
  refine ACallsK.of (Concat_spec (hC.sub (T' := T47) (by decide)) (ps := [(vb, b), (vb, b)]) (j := h.size) (u := 0) (wr := true) (get_push_eq rfl) (by intro p hp; simp only [List.mem_cons, List.not_mem_nil, or_false] at hp; rcases hp with rfl | rfl <;> exact ⟨hbb, by simp only; omega⟩) (by simp) (by rw [efl]; simp; omega)) ?_
  rintro r h1 A
  rw [efl] at A
  have A0 := A.sub
  have hs0 : HSub h h1 := (HSub.push1 _ _).trans A0
  have hr := A.ri
  have ha1 := ha.mono hs0
  simp -implicitDefEqProofs (disch := first | assumption | decide | omega | (simp only [wpD1] <;> omega) | (simp only [wpD2] <;> assumption) | solve_by_elim [HSub.refl, HSub.push, HSub.reserve] | fail) only [↓wpPre, wpPost, wpPoly, Int.reduceToNat, Int.reducePow, Int.reduceMul, Int.reduceAdd, Int.reduceSub, Int.reduceNeg, Nat.reduceAdd, Nat.reduceMul, Nat.reducePow, Int.reduceLT, Int.reduceLE, Int.reduceEq, Nat.reduceEqDiff, ha.len, ints_replicate]
  have hN : ∀ f : Nat → Int, ((List.range a.length).map f).length = a.length := fun f => by simp
  refine wp_loopI (fun j t h' => ∃ k : Nat, h' = h1.push (.cells (ints ((List.range a.length).map (cpre a b k 0))) true 0) ∧ t 0 = va ∧ t 7 = r ∧ t 8 = .slice h1.size 0 a.length (.known a.length) ∧ t 40 = .slice h1.size 0 a.length (.known a.length) ∧ t 41 = .int .i64 a.length ∧ t 42 = .int .i64 (k : Nat) ∧ k ≤ a.length ∧ j = a.length - k) (j0 := a.length)
    ⟨0, ?_, rfl, rfl, rfl, rfl, rfl, rfl, by omega, rfl⟩ ?_
  · have e : (List.range a.length).map (cpre a b 0 0) = List.replicate a.length 0 := by
      have : cpre a b 0 0 = fun _ => 0 := by funext n; simp [cpre, cs]
      rw [this, List.map_const', List.length_range]
    rw [e]
  rintro j t h2 ⟨k, rfl, e0, e7, e8, e40, e41, e42, hk, hj⟩
  simp -implicitDefEqProofs (disch := first | assumption | decide | omega | (simp only [wpD1] <;> omega) | (simp only [wpD2] <;> assumption) | solve_by_elim [HSub.refl, HSub.push, HSub.reserve] | fail) only [↓wpPre, wpPost, wpPoly, Int.reduceToNat, Int.reducePow, Int.reduceMul, Int.reduceAdd, Int.reduceSub, Int.reduceNeg, Nat.reduceAdd, Nat.reduceMul, Nat.reducePow, Int.reduceLT, Int.reduceLE, Int.reduceEq, Nat.reduceEqDiff, e41, e42]
  refine Br.by (fun c => ?_) (fun c => ?_)
  · have hk' : k < a.length := by omega
    simp -implicitDefEqProofs (disch := first | assumption | decide | omega | (simp only [wpD1] <;> omega) | (simp only [wpD2] <;> assumption) | solve_by_elim [HSub.refl, HSub.push, HSub.reserve] | fail) only [↓wpPre, wpPost, wpPoly, Int.reduceToNat, Int.reducePow, Int.reduceMul, Int.reduceAdd, Int.reduceSub, Int.reduceNeg, Nat.reduceAdd, Nat.reduceMul, Nat.reducePow, Int.reduceLT, Int.reduceLE, Int.reduceEq, Nat.reduceEqDiff, e0, ha.len, e42]
    refine wp_loopI (fun j t h' => ∃ i : Nat, h' = h1.push (.cells (ints ((List.range a.length).map (cpre a b k i))) true 0) ∧ t 0 = va ∧ t 7 = r ∧ t 8 = .slice h1.size 0 a.length (.known a.length) ∧ t 40 = .slice h1.size 0 a.length (.known a.length) ∧ t 41 = .int .i64 a.length ∧ t 42 = .int .i64 (k : Nat) ∧ t 9 = .int .i64 (k : Nat) ∧ t 45 = va ∧ t 46 = .int .i64 a.length ∧ t 47 = .int .i64 (i : Nat) ∧ i ≤ a.length ∧ j = a.length - i) (j0 := a.length)
      ⟨0, rfl, e0, e7, e8, e40, e41, e42, rfl, rfl, rfl, rfl, by omega, rfl⟩ ?_
    rintro j t h3 ⟨i, rfl, e0, e7, e8, e40, e41, e42, e9, e45, e46, e47, hi, hj⟩
    simp -implicitDefEqProofs (disch := first | assumption | decide | omega | (simp only [wpD1] <;> omega) | (simp only [wpD2] <;> assumption) | solve_by_elim [HSub.refl, HSub.push, HSub.reserve] | fail) only [↓wpPre, wpPost, wpPoly, Int.reduceToNat, Int.reducePow, Int.reduceMul, Int.reduceAdd, Int.reduceSub, Int.reduceNeg, Nat.reduceAdd, Nat.reduceMul, Nat.reducePow, Int.reduceLT, Int.reduceLE, Int.reduceEq, Nat.reduceEqDiff, e46, e47]
    refine Br.by (fun c2 => ?_) (fun c2 => ?_)
    · have hi' : i < a.length := by omega
      have hm : (i + k) % b.length < b.length := Nat.mod_lt _ (by omega)
      have b1 := absI_le (Int.le_trans (cs_abs a b k (by omega) i hi) (Int.mul_le_mul_of_nonneg_right (sumAbs_take_le a i) s4))
      have b4 : absI (a.getD i 0 * b.getD ((i + k) % b.length) 0) ≤ 1000000 * 1000000 := by
        rw [absI_mul]
        exact Int.mul_le_mul (small_abs sa hi') (small_abs sb hm) (absI_nonneg _) (by omega)
      have b5 := absI_le b4
      have g : ((List.range a.length).map (cpre a b k i)).getD k 0 = cs a b k i := by rw [range_get hk']; simp [cpre]
      have hNk := hN (cpre a b k i)
      have tg := twice_get (b := b) (i := i) (k := k) (by omega) (by omega)
      have tl : (b ++ b).length = b.length + b.length := List.length_append
      have tn : ((k : Int) + i).toNat = k + i := by omega
      generalize hq : (i + k) % b.length = q at hm b4 b5 tg
      simp -implicitDefEqProofs (disch := first | assumption | decide | omega | (simp only [wpD1] <;> omega) | (simp only [wpD2] <;> assumption) | solve_by_elim [HSub.refl, HSub.push, HSub.reserve] | fail) only [↓wpPre, wpPost, wpPoly, Int.reduceToNat, Int.reducePow, Int.reduceMul, Int.reduceAdd, Int.reduceSub, Int.reduceNeg, Nat.reduceAdd, Nat.reduceMul, Nat.reducePow, Int.reduceLT, Int.reduceLE, Int.reduceEq, Nat.reduceEqDiff, e0, e7, e8, e9, e40, e41, e42, e45, e46, e47, ha1.idx, hr.idx, ha1.loadC, hr.loadC, tn, tg, g]
      refine ⟨_, ⟨i + 1, ?_, by simp, by omega, rfl⟩, by omega⟩
      rw [range_set (g := cpre a b k (i + 1)) (by simp [cpre, cs, hq]) (fun n hn => by simp only [cpre, if_neg hn])]
    · have : i = a.length := by omega
      subst this
      have e : cpre a b k a.length = cpre a b (k + 1) 0 := by
        funext n
        simp only [cpre]
        by_cases h1 : n < k
        · rw [if_pos h1, if_pos (by omega)]
        · rw [if_neg h1]
          by_cases h2 : n = k
          · rw [if_pos h2, if_pos (by omega), h2]
          · rw [if_neg h2, if_neg (by omega)]; simp [cs]
      rw [e]
      simp -implicitDefEqProofs (disch := first | assumption | decide | omega | (simp only [wpD1] <;> omega) | (simp only [wpD2] <;> assumption) | solve_by_elim [HSub.refl, HSub.push, HSub.reserve] | fail) only [↓wpPre, wpPost, wpPoly, Int.reduceToNat, Int.reducePow, Int.reduceMul, Int.reduceAdd, Int.reduceSub, Int.reduceNeg, Nat.reduceAdd, Nat.reduceMul, Nat.reducePow, Int.reduceLT, Int.reduceLE, Int.reduceEq, Nat.reduceEqDiff, e0, e7, e8, e40, e41, e42]
      exact ⟨_, ⟨k + 1, rfl, by simp, by omega, rfl⟩, by omega⟩
  · have : k = a.length := by omega
    subst this
    simp -implicitDefEqProofs (disch := first | assumption | decide | omega | (simp only [wpD1] <;> omega) | (simp only [wpD2] <;> assumption) | solve_by_elim [HSub.refl, HSub.push, HSub.reserve] | fail) only [↓wpPre, wpPost, wpPoly, Int.reduceToNat, Int.reducePow, Int.reduceMul, Int.reduceAdd, Int.reduceSub, Int.reduceNeg, Nat.reduceAdd, Nat.reduceMul, Nat.reducePow, Int.reduceLT, Int.reduceLE, Int.reduceEq, Nat.reduceEqDiff, e8]
    have e : (List.range a.length).map (cpre a b a.length 0) = circ a b := by
      refine List.map_congr_left fun n hn => ?_
      rw [List.mem_range] at hn
      simp only [cpre, if_pos hn]
    rw [e]
    have cl := circ_length a b
    exact ⟨.slice h1.size 0 a.length (.known a.length), by simp only [pe, lstErr], hs0.push _, by rw [if_pos pe]; exact RI.known (get_push_eq rfl) ⟨by rw [cl], by omega⟩ (by omega), fun _ => ⟨hs0.push _, by omega, h1.size, hs0.size, by rw [cl], get_push_eq rfl⟩⟩
theorem CircP_spec (hC : Has C T25) {va vb : AV} {a b : List Int} {h : Heap} (ha : RI h va a) (hb : RI h vb b) :
    ACalls C 25 [va, vb] h (fun r h' => ∃ v', r = lstErr v' (circErr a b) ∧ HSub h h' ∧ RI h' v' (if circErr a b = 0 then circ a b else [])) :=
  (CircP_specF hC ha hb).mono fun _ _ ⟨v, q1, q2, q3, _⟩ => ⟨v, q1, q2, q3⟩
end
end Go.Ae

/- Spectra, in plain numbers: how often the circular sums occur. -/
set_option linter.unusedSimpArgs false
set_option linter.unusedVariables false
namespace Go.Ae
def stepR (acc : List (Int × Int)) (x : Int) : List (Int × Int) :=
  if 0 < acc.length ∧ (acc.getD (acc.length - 1) (0, 0)).1 = x then acc.set (acc.length - 1) (x, (acc.getD (acc.length - 1) (0, 0)).2 + 1) else acc ++ [(x, 1)]
def rleL (l : List Int) (k : Nat) : List (Int × Int) := (l.take k).foldl stepR []
theorem rleL_succ {l : List Int} {k : Nat} (h : k < l.length) : rleL l (k + 1) = stepR (rleL l k) (l.getD k 0) := by
  unfold rleL
  rw [take_succ_getD h, List.foldl_append]; rfl
theorem stepR_len (acc : List (Int × Int)) (x : Int) : (stepR acc x).length ≤ acc.length + 1 := by
  unfold stepR; split <;> simp
theorem rleL_len (l : List Int) : ∀ k, (rleL l k).length ≤ k
  | 0 => by simp [rleL]
  | k + 1 => by
    by_cases h : k < l.length
    · rw [rleL_succ h]
      have := stepR_len (rleL l k) (l.getD k 0)
      have := rleL_len l k
      omega
    · have e : rleL l (k + 1) = rleL l k := by unfold rleL; rw [List.take_of_length_le (by omega), List.take_of_length_le (by omega)]
      rw [e]
      have := rleL_len l k
      omega
theorem rleL_pos (l : List Int) : ∀ k, ∀ p ∈ rleL l k, 0 ≤ p.2 ∧ p.2 ≤ k
  | 0, p, hp => by simp [rleL] at hp
  | k + 1, p, hp => by
    by_cases h : k < l.length
    · rw [rleL_succ h] at hp
      have ih := rleL_pos l k
      unfold stepR at hp
      split at hp
      · rename_i c
        rcases List.mem_or_eq_of_mem_set hp with q | q
        · have := ih p q; omega
        · rw [q]
          have := ih _ (getP_mem (l := rleL l k) (k := (rleL l k).length - 1) (by omega))
          simp only; omega
      · rcases List.mem_append.1 hp with q | q
        · have := ih p q; omega
        · simp only [List.mem_singleton] at q; rw [q]; simp only; omega
    · have e : rleL l (k + 1) = rleL l k := by unfold rleL; rw [List.take_of_length_le (by omega), List.take_of_length_le (by omega)]
      rw [e] at hp
      have := rleL_pos l k p hp; omega
def cntL (l : List Int) (v : Int) : Nat → Int
  | 0 => 0
  | k + 1 => cntL l v k + if l.getD k 0 = v then 1 else 0
def specK (l : List Int) (n : Nat) : Nat → List (Int × Int)
  | 0 => []
  | k + 1 => specK l n k ++ if 0 < cntL l ((k : Int) - n) l.length then [((k : Int) - n, cntL l ((k : Int) - n) l.length)] else []
end Go.Ae

/- Counting behind sorting is counting by values. -/
set_option linter.unusedSimpArgs false
set_option linter.unusedVariables false
namespace Go.Ae
def repL (l : List Int) (n : Nat) : Nat → List Int
  | 0 => []
  | k + 1 => repL l n k ++ List.replicate (l.count ((k : Int) - n)) ((k : Int) - n)
theorem repL_lt (l : List Int) (n : Nat) : ∀ k, ∀ x ∈ repL l n k, -(n : Int) ≤ x ∧ x < (k : Int) - n
  | 0, x, hx => by simp [repL] at hx
  | k + 1, x, hx => by
    rw [repL] at hx
    rcases List.mem_append.1 hx with q | q
    · have := repL_lt l n k x q; omega
    · have := (List.mem_replicate.1 q).2; omega
theorem repL_sorted (l : List Int) (n : Nat) : ∀ k, (repL l n k).Pairwise (fun a b => a ≤ b)
  | 0 => List.Pairwise.nil
  | k + 1 => by
    rw [repL, List.pairwise_append]
    refine ⟨repL_sorted l n k, ?_, ?_⟩
    · exact List.pairwise_replicate.2 (.inr (Int.le_refl _))
    · intro a ha b hb
      have := repL_lt l n k a ha
      have := (List.mem_replicate.1 hb).2
      omega
theorem repL_count (l : List Int) (n : Nat) (x : Int) : ∀ k, (repL l n k).count x = if -(n : Int) ≤ x ∧ x < (k : Int) - n then l.count x else 0
  | 0 => by rw [if_neg (by omega)]; simp [repL]
  | k + 1 => by
    rw [repL, List.count_append, repL_count l n x k, List.count_replicate]
    by_cases h1 : x = (k : Int) - n
    · have a1 : ¬(-(n : Int) ≤ x ∧ x < (k : Int) - n) := by omega
      have a2 : -(n : Int) ≤ x ∧ x < ((k + 1 : Nat) : Int) - n := by omega
      rw [if_neg a1, if_pos a2, ← h1]
      simp
    · have a3 : ((k : Int) - n == x) = false := by simpa using fun h => h1 h.symm
      rw [a3]
      by_cases h2 : -(n : Int) ≤ x ∧ x < (k : Int) - n
      · have a4 : -(n : Int) ≤ x ∧ x < ((k + 1 : Nat) : Int) - n := by omega
        rw [if_pos h2, if_pos a4]; simp
      · have a4 : ¬(-(n : Int) ≤ x ∧ x < ((k + 1 : Nat) : Int) - n) := by omega
        rw [if_neg h2, if_neg a4]; simp
theorem sort_rep {l : List Int} {n : Nat} (h : ∀ x ∈ l, -(n : Int) ≤ x ∧ x ≤ n) : sortL l = repL l n (2 * n + 1) := by
  have p1 : (sortL l).Perm l := List.mergeSort_perm _ _
  have p2 : (repL l n (2 * n + 1)).Perm l := by
    rw [List.perm_iff_count]
    intro a
    rw [repL_count]
    split
    · rfl
    · rename_i c
      refine (List.count_eq_zero_of_not_mem fun hm => c ?_).symm
      have := h a hm; omega
  have s1 : (sortL l).Pairwise (fun a b => a ≤ b) := by
    have := List.pairwise_mergeSort (le := fun x y : Int => decide (x ≤ y)) (by intro a b c; simp; omega) (by intro a b; simp; omega) l
    exact this.imp (by intro a b h; simpa using h)
  exact List.Perm.eq_of_pairwise (le := fun a b : Int => a ≤ b) (fun a b _ _ h1 h2 => Int.le_antisymm h1 h2) s1 (repL_sorted l n _) (p1.trans p2.symm)
theorem cntL_count (l : List Int) (v : Int) : ∀ k, k ≤ l.length → cntL l v k = ((l.take k).count v : Nat)
  | 0, _ => by simp [cntL]
  | k + 1, h => by
    rw [cntL, cntL_count l v k (by omega), take_succ_getD (by omega), List.count_append, List.count_singleton]
    by_cases e : l.getD k 0 = v
    · rw [if_pos e, if_pos (by simpa using e)]; omega
    · rw [if_neg e, if_neg (by simpa using e)]; omega
theorem cntL_all (l : List Int) (v : Int) : cntL l v l.length = (l.count v : Nat) := by rw [cntL_count l v _ (Nat.le_refl _), List.take_length]
theorem fold_rep {v : Int} : ∀ (c : Nat) {acc : List (Int × Int)}, (0 < acc.length → (acc.getD (acc.length - 1) (0, 0)).1 ≠ v) → (List.replicate c v).foldl stepR acc = if c = 0 then acc else acc ++ [(v, (c : Int))]
  | 0, acc, _ => rfl
  | c + 1, acc, h => by
    rw [List.replicate_succ', List.foldl_append, fold_rep c h]
    simp only [List.foldl_cons, List.foldl_nil]
    by_cases e : c = 0
    · subst e
      rw [if_pos rfl, stepR, if_neg (fun q => h q.1 q.2)]; rfl
    · rw [if_neg e, if_neg (by omega), stepR]
      have h1 : (acc ++ [(v, (c : Int))]).length - 1 = acc.length := by simp
      have h2 : (acc ++ [(v, (c : Int))]).getD acc.length (0, 0) = (v, (c : Int)) := by simp [List.getD_eq_getElem?_getD]
      rw [h1, h2, if_pos ⟨by simp, rfl⟩, List.set_append_right _ _ (Nat.le_refl _), Nat.sub_self]
      simp
theorem specK_lt (l : List Int) (n : Nat) : ∀ k, ∀ p ∈ specK l n k, p.1 < (k : Int) - n
  | 0, p, hp => by simp [specK] at hp
  | k + 1, p, hp => by
    rw [specK] at hp
    rcases List.mem_append.1 hp with q | q
    · have := specK_lt l n k p q; omega
    · split at q
      · simp only [List.mem_singleton] at q; rw [q]; simp only; omega
      · simp at q
theorem fold_repL (l : List Int) (n : Nat) : ∀ k, (repL l n k).foldl stepR [] = specK l n k
  | 0 => rfl
  | k + 1 => by
    rw [repL, List.foldl_append, fold_repL l n k, fold_rep _ (fun hl => ?_), specK, cntL_all]
    · by_cases e : l.count ((k : Int) - n) = 0
      · rw [if_pos e, if_neg (by omega), List.append_nil]
      · rw [if_neg e, if_pos (by omega)]
    · have := specK_lt l n k _ (getP_mem (l := specK l n k) (k := (specK l n k).length - 1) (by omega))
      omega
theorem rle_spec {l : List Int} {n : Nat} (h : ∀ x ∈ l, -(n : Int) ≤ x ∧ x ≤ n) : rleL (sortL l) l.length = specK l n (2 * n + 1) := by
  have e : (sortL l).length = l.length := List.length_mergeSort l
  unfold rleL
  rw [← e, List.take_length, sort_rep h, fold_repL]
end Go.Ae

/- Three numbers as a value. -/
set_option linter.unusedSimpArgs false
set_option linter.unusedVariables false
namespace Go.Ae
def tup3 (x y e : Int) : AV := .tuple [.int .i64 x, .int .i64 y, .int .i64 e]
end Go.Ae
