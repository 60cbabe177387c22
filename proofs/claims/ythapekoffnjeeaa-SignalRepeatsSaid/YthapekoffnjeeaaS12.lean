/- Texts of the proof, part 12: a second reading of the lowered code, proved sound, and what the functions compute. -/
import Derived.Test.YthapekoffnjeeaaS11

/- Plans and emitters that numbers select. -/
set_option linter.unusedSimpArgs false
set_option linter.unusedVariables false
namespace Go.Ae
theorem someOf_range {l : List Int} {i : Nat} {n : Int} (hn : 1 ≤ n) : 0 ≤ someOf l i n ∧ someOf l i n < n := by
  unfold someOf
  split
  · exact ⟨Int.emod_nonneg _ (by omega), Int.emod_lt_of_pos _ (by omega)⟩
  · omega
def prnK (f : Int) (k : Nat) : List Int := (List.range k).map fun i => f + 4 * (i : Nat)
theorem prnK_length (f : Int) (k : Nat) : (prnK f k).length = k := by simp [prnK]
theorem prnK_succ (f : Int) (k : Nat) : prnK f (k + 1) = prnK f k ++ [f + 4 * (k : Nat)] := by simp [prnK, List.range_succ]
def planOf (l : List Int) : PlanP := ⟨5 + someOf l 0 2, 1 + someOf l 1 3, 1 + someOf l 2 3, 2, 1 + someOf l 3 20, 1 + someOf l 3 20 + someOf l 5 20, someOf l 4 50, prnK (1 + someOf l 6 20) (someOf l 7 3 + 1).toNat⟩
theorem prnK_err (n f : Int) (hf : 1 ≤ f) : ∀ (m k : Nat), f + 4 * ((k + m : Nat) : Int) ≤ n + 6 → prnsErr n (prnK f k) ((List.range m).map fun i => f + 4 * ((k + i : Nat) : Int)) = 0
  | 0, k, _ => rfl
  | m + 1, k, h => by
    rw [List.range_succ_eq_map, List.map_cons, prnsErr, if_neg (by omega), if_neg]
    · have e : prnK f k ++ [f + 4 * ((k + 0 : Nat) : Int)] = prnK f (k + 1) := by rw [prnK_succ]; simp
      rw [e, List.map_map]
      have ih := prnK_err n f hf m (k + 1) (by omega)
      have e2 : ((fun i => f + 4 * ((k + i : Nat) : Int)) ∘ Nat.succ) = fun i => f + 4 * ((k + 1 + i : Nat) : Int) := by
        funext i
        show f + 4 * ((k + (i + 1) : Nat) : Int) = _
        omega
      rw [e2]
      exact ih
    · intro q
      rw [List.any_eq_true] at q
      obtain ⟨x, hx, q⟩ := q
      obtain ⟨i, hi, rfl⟩ := List.mem_map.1 hx
      rw [beq_iff_eq] at q
      have := List.mem_range.1 hi
      omega
theorem planOf_nums (l : List Int) : (planOf l).numsOk := by
  have h0 := someOf_range (l := l) (i := 0) (n := 2) (by omega)
  have h1 := someOf_range (l := l) (i := 1) (n := 3) (by omega)
  have h2 := someOf_range (l := l) (i := 2) (n := 3) (by omega)
  have h3 := someOf_range (l := l) (i := 3) (n := 20) (by omega)
  have h4 := someOf_range (l := l) (i := 4) (n := 50) (by omega)
  have h5 := someOf_range (l := l) (i := 5) (n := 20) (by omega)
  unfold PlanP.numsOk planOf
  dsimp only
  refine ⟨?_, by omega, by omega, by omega, by omega, by omega, by omega⟩
  rcases (show someOf l 0 2 = 0 ∨ someOf l 0 2 = 1 by omega) with e | e <;> rw [e] <;> decide
theorem planOf_err (l : List Int) : (planOf l).err = 0 := by
  have h6 := someOf_range (l := l) (i := 6) (n := 20) (by omega)
  have h7 := someOf_range (l := l) (i := 7) (n := 3) (by omega)
  have hn := planOf_nums l
  have hN := lenN_eq hn.1
  have hl : (planOf l).prns.length = (someOf l 7 3 + 1).toNat := prnK_length _ _
  unfold PlanP.err
  rw [if_pos hn, if_neg (by omega), if_neg (by omega)]
  have := prnK_err (lenN (planOf l).d) (1 + someOf l 6 20) (by omega) (someOf l 7 3 + 1).toNat 0 (by omega)
  have e : (planOf l).prns = (List.range (someOf l 7 3 + 1).toNat).map fun i => (1 + someOf l 6 20) + 4 * ((0 + i : Nat) : Int) := by
    show prnK _ _ = _
    unfold prnK
    refine List.map_congr_left fun i _ => ?_
    rw [Nat.zero_add]
  rw [e]
  exact this
theorem planOf_64 (l : List Int) : (planOf l).ok64 := by
  have h0 := someOf_range (l := l) (i := 0) (n := 2) (by omega)
  have h1 := someOf_range (l := l) (i := 1) (n := 3) (by omega)
  have h2 := someOf_range (l := l) (i := 2) (n := 3) (by omega)
  have h3 := someOf_range (l := l) (i := 3) (n := 20) (by omega)
  have h4 := someOf_range (l := l) (i := 4) (n := 50) (by omega)
  have h5 := someOf_range (l := l) (i := 5) (n := 20) (by omega)
  have h6 := someOf_range (l := l) (i := 6) (n := 20) (by omega)
  have h7 := someOf_range (l := l) (i := 7) (n := 3) (by omega)
  unfold PlanP.ok64 planOf In64
  dsimp only
  refine ⟨by omega, by omega, by omega, by omega, by omega, by omega, by omega, fun x hx => ?_⟩
  obtain ⟨i, hi, rfl⟩ := List.mem_map.1 hx
  have := List.mem_range.1 hi
  omega
def bitK (l : List Int) (k : Nat) : List Int := (List.range k).map fun i => l.getD (7 + i) 0 % 2
theorem bitK_length (l : List Int) (k : Nat) : (bitK l k).length = k := by simp [bitK]
theorem bitK_succ (l : List Int) (k : Nat) : bitK l (k + 1) = bitK l k ++ [l.getD (7 + k) 0 % 2] := by simp [bitK, List.range_succ]
def emitOf (p : PlanP) (l : List Int) : EmitP := ⟨p.prns.getD 0 0, someOf l 0 p.size, someOf l 1 129 - 64, someOf l 2 64 * 67108864 + someOf l 3 67108864, someOf l 4 64 * 67108864, p.mn + someOf l 5 (p.mx - p.mn + 1), someOf l 6 p.pb, bitK l (min l.length 20 - 7)⟩
theorem emitOf_64 {p : PlanP} {l : List Int} (hp : p.numsOk) (h64 : p.ok64) (hl : 0 < p.prns.length) : (emitOf p l).ok64 := by
  have sz := size_range hp
  have h0 := someOf_range (l := l) (i := 0) (n := p.size) (by omega)
  have h1 := someOf_range (l := l) (i := 1) (n := 129) (by omega)
  have h2 := someOf_range (l := l) (i := 2) (n := 64) (by omega)
  have h3 := someOf_range (l := l) (i := 3) (n := 67108864) (by omega)
  have h4 := someOf_range (l := l) (i := 4) (n := 64) (by omega)
  have pm := hp.2.2.2.2
  have h5 := someOf_range (l := l) (i := 5) (n := p.mx - p.mn + 1) (by omega)
  have pb := hp.2.2.1
  have h6 := someOf_range (l := l) (i := 6) (n := p.pb) (by omega)
  have hx := h64.2.2.2.2.2.2.2 _ (getD_mem (l := p.prns) (i := 0) hl)
  unfold EmitP.ok64 emitOf
  dsimp only
  refine ⟨hx, by unfold In64; omega, by unfold In64; omega, by unfold U32; omega, by unfold U32; omega, by unfold In64; omega, by unfold In64; omega, fun x hx => ?_⟩
  obtain ⟨i, _, rfl⟩ := List.mem_map.1 hx
  unfold In64; omega
theorem emitOf_err {p : PlanP} {l : List Int} (hp : p.err = 0) : emitErr p (emitOf p l) = 0 := by
  have pn := plan_ok hp
  have sz := size_range pn
  have h0 := someOf_range (l := l) (i := 0) (n := p.size) (by omega)
  have h1 := someOf_range (l := l) (i := 1) (n := 129) (by omega)
  have pm := pn.2.2.2.2
  have h5 := someOf_range (l := l) (i := 5) (n := p.mx - p.mn + 1) (by omega)
  have pb := pn.2.2.1
  have h6 := someOf_range (l := l) (i := 6) (n := p.pb) (by omega)
  have hl : 0 < p.prns.length := by
    unfold PlanP.err at hp
    rw [if_pos pn] at hp
    by_cases c : p.prns.length = 0
    · rw [if_pos c] at hp; omega
    · omega
  have ha : (p.prns.any fun y => (emitOf p l).prn == y) = true := by
    rw [List.any_eq_true]
    exact ⟨_, getD_mem hl, by simp [emitOf]⟩
  have hn : (emitOf p l).numsOk p := by
    unfold EmitP.numsOk emitOf
    dsimp only
    omega
  have hb : (emitOf p l).bits.any (fun b => b != 0 && b != 1) = false := by
    rw [List.any_eq_false]
    intro x hx
    obtain ⟨i, _, rfl⟩ := List.mem_map.1 hx
    have := Int.emod_two_eq (l.getD (7 + i) 0)
    rcases this with e | e <;> rw [e] <;> decide
  have hlen : (emitOf p l).bits.length ≤ 20 := by
    show (bitK _ _).length ≤ 20
    rw [bitK_length]; omega
  unfold emitErr
  rw [if_pos hp, if_pos ha, if_pos hn, if_neg (by omega), if_neg (by rw [hb]; decide)]
theorem GrwI.putNe {h0 H : Heap} {v : AV} {l : List Int} {i : Nat} {b : ABlk} (A : GrwI h0 H v l) (hi : h0.size ≤ i) (hn : ∀ j ∈ v.ids, j ≠ i) : GrwI h0 (H.put i b) v l := by
  obtain ⟨hs, hl, hn', ⟨rfl, e⟩ | ⟨j, ex, hj, rfl, hg⟩⟩ := A
  · exact ⟨hs.put hi b, hl, hn', .inl ⟨rfl, e⟩⟩
  · exact ⟨hs.put hi b, hl, hn', .inr ⟨j, ex, hj, rfl, (get_put_ne (hn j (by simp [AV.ids]))).trans hg⟩⟩
theorem snocN_ne {H : Heap} {v : AV} {sz j : Nat} {cs : List AV} (hj : j < H.size) (hv : j ∉ v.ids) : (snocH H none v sz cs).get j = H.get j := by
  unfold snocH
  cases v
  case slice i o n c => exact (get_push_lt (by simpa using hj)).trans (get_put_ne (fun e => hv (by simp [AV.ids, e])))
  all_goals exact get_push_lt hj
theorem snocN_size {H : Heap} {v : AV} {sz : Nat} {cs : List AV} : (snocH H none v sz cs).size = H.size + 1 := by
  unfold snocH
  cases v <;> simp [Heap.new]
section
variable {C : Ctx}
set_option maxHeartbeats 4000000 in
set_option maxRecDepth 20000 in
theorem PlanOf_spec (hC : Has C T235) {v : AV} {l : List Int} {h : Heap} (hl : RI h v l) (hx : ∀ x ∈ l, In64 x) : ACalls C 235 [v] h (fun r h' => HSub h h' ∧ PlI h' r (planOf l)) := by
  have hlt := hl.lt
  have S := fun (i : Nat) (n : Int) (hn : 1 ≤ n ∧ n ≤ 9223372036854775807) h1 (q : HSub h h1) => Some_spec (hC.sub (T' := T45) (by decide)) (i := i) (hl.mono q) hx hn
  have h0 := someOf_range (l := l) (i := 0) (n := 2) (by omega)
  have h1 := someOf_range (l := l) (i := 1) (n := 3) (by omega)
  have h2 := someOf_range (l := l) (i := 2) (n := 3) (by omega)
  have h3 := someOf_range (l := l) (i := 3) (n := 20) (by omega)
  have h4 := someOf_range (l := l) (i := 4) (n := 50) (by omega)
  have h5 := someOf_range (l := l) (i := 5) (n := 20) (by omega)
  have h6 := someOf_range (l := l) (i := 6) (n := 20) (by omega)
  have h7 := someOf_range (l := l) (i := 7) (n := 3) (by omega)
  unfold PlI planOf
  dsimp only
  have S0 := S 0 2 (by omega)
  have S1 := S 1 3 (by omega)
  have S2 := S 2 3 (by omega)
  have S3 := S 3 20 (by omega)
  have S4 := S 4 50 (by omega)
  have S5 := S 5 20 (by omega)
  have S6 := S 6 20 (by omega)
  have S7 := S 7 3 (by omega)
  generalize someOf l 0 2 = a0 at *
  generalize someOf l 1 3 = a1 at *
  generalize someOf l 2 3 = a2 at *
  generalize someOf l 3 20 = a3 at *
  generalize someOf l 4 50 = a4 at *
  generalize someOf l 5 20 = a5 at *
  generalize someOf l 6 20 = a6 at *
  generalize someOf l 7 3 = a7 at *
  (refine calls_intro (hC.body (by decide) tab235) (Nat.le_of_ble_eq_true rfl) ?_); (show wp C _ none B235.code _ _); (simp only [B235]); simp -implicitDefEqProofs (disch := first | assumption | decide | omega | (simp only [wpD1] <;> omega) | (simp only [wpD2] <;> assumption) | solve_by_elim [HSub.refl, HSub.push, HSub.reserve] | fail) only [↓wpPre, wpPost, wpPoly, Int.reduceToNat, Int.reducePow, Int.reduceMul, Int.reduceAdd, Int.reduceSub, Int.reduceNeg, Nat.reduceAdd, Nat.reduceMul, Nat.reducePow, Int.reduceLT, Int.reduceLE, Int.reduceEq, Nat.reduceEqDiff]
  refine ACallsK.eq (S0 _ (by repeat (first | exact HSub.refl h | refine HSub.put ?_ (by (try simp only [Heap.size_put, Heap.size_push, Heap.size_reserve]); omega) _ | refine HSub.push ?_ _ | refine HSub.reserve ?_ _))) ?_
  simp -implicitDefEqProofs (disch := first | assumption | decide | omega | (simp only [wpD1] <;> omega) | (simp only [wpD2] <;> assumption) | solve_by_elim [HSub.refl, HSub.push, HSub.reserve] | fail) only [↓wpPre, wpPost, wpPoly, Int.reduceToNat, Int.reducePow, Int.reduceMul, Int.reduceAdd, Int.reduceSub, Int.reduceNeg, Nat.reduceAdd, Nat.reduceMul, Nat.reducePow, Int.reduceLT, Int.reduceLE, Int.reduceEq, Nat.reduceEqDiff]
  refine ACallsK.eq (S1 _ (by repeat (first | exact HSub.refl h | refine HSub.put ?_ (by (try simp only [Heap.size_put, Heap.size_push, Heap.size_reserve]); omega) _ | refine HSub.push ?_ _ | refine HSub.reserve ?_ _))) ?_
  simp -implicitDefEqProofs (disch := first | assumption | decide | omega | (simp only [wpD1] <;> omega) | (simp only [wpD2] <;> assumption) | solve_by_elim [HSub.refl, HSub.push, HSub.reserve] | fail) only [↓wpPre, wpPost, wpPoly, Int.reduceToNat, Int.reducePow, Int.reduceMul, Int.reduceAdd, Int.reduceSub, Int.reduceNeg, Nat.reduceAdd, Nat.reduceMul, Nat.reducePow, Int.reduceLT, Int.reduceLE, Int.reduceEq, Nat.reduceEqDiff]
  refine ACallsK.eq (S2 _ (by repeat (first | exact HSub.refl h | refine HSub.put ?_ (by (try simp only [Heap.size_put, Heap.size_push, Heap.size_reserve]); omega) _ | refine HSub.push ?_ _ | refine HSub.reserve ?_ _))) ?_
  simp -implicitDefEqProofs (disch := first | assumption | decide | omega | (simp only [wpD1] <;> omega) | (simp only [wpD2] <;> assumption) | solve_by_elim [HSub.refl, HSub.push, HSub.reserve] | fail) only [↓wpPre, wpPost, wpPoly, Int.reduceToNat, Int.reducePow, Int.reduceMul, Int.reduceAdd, Int.reduceSub, Int.reduceNeg, Nat.reduceAdd, Nat.reduceMul, Nat.reducePow, Int.reduceLT, Int.reduceLE, Int.reduceEq, Nat.reduceEqDiff]
  refine ACallsK.eq (S3 _ (by repeat (first | exact HSub.refl h | refine HSub.put ?_ (by (try simp only [Heap.size_put, Heap.size_push, Heap.size_reserve]); omega) _ | refine HSub.push ?_ _ | refine HSub.reserve ?_ _))) ?_
  simp -implicitDefEqProofs (disch := first | assumption | decide | omega | (simp only [wpD1] <;> omega) | (simp only [wpD2] <;> assumption) | solve_by_elim [HSub.refl, HSub.push, HSub.reserve] | fail) only [↓wpPre, wpPost, wpPoly, Int.reduceToNat, Int.reducePow, Int.reduceMul, Int.reduceAdd, Int.reduceSub, Int.reduceNeg, Nat.reduceAdd, Nat.reduceMul, Nat.reducePow, Int.reduceLT, Int.reduceLE, Int.reduceEq, Nat.reduceEqDiff]
  refine ACallsK.eq (S4 _ (by repeat (first | exact HSub.refl h | refine HSub.put ?_ (by (try simp only [Heap.size_put, Heap.size_push, Heap.size_reserve]); omega) _ | refine HSub.push ?_ _ | refine HSub.reserve ?_ _))) ?_
  simp -implicitDefEqProofs (disch := first | assumption | decide | omega | (simp only [wpD1] <;> omega) | (simp only [wpD2] <;> assumption) | solve_by_elim [HSub.refl, HSub.push, HSub.reserve] | fail) only [↓wpPre, wpPost, wpPoly, Int.reduceToNat, Int.reducePow, Int.reduceMul, Int.reduceAdd, Int.reduceSub, Int.reduceNeg, Nat.reduceAdd, Nat.reduceMul, Nat.reducePow, Int.reduceLT, Int.reduceLE, Int.reduceEq, Nat.reduceEqDiff]
  refine ACallsK.eq (S5 _ (by repeat (first | exact HSub.refl h | refine HSub.put ?_ (by (try simp only [Heap.size_put, Heap.size_push, Heap.size_reserve]); omega) _ | refine HSub.push ?_ _ | refine HSub.reserve ?_ _))) ?_
  simp -implicitDefEqProofs (disch := first | assumption | decide | omega | (simp only [wpD1] <;> omega) | (simp only [wpD2] <;> assumption) | solve_by_elim [HSub.refl, HSub.push, HSub.reserve] | fail) only [↓wpPre, wpPost, wpPoly, Int.reduceToNat, Int.reducePow, Int.reduceMul, Int.reduceAdd, Int.reduceSub, Int.reduceNeg, Nat.reduceAdd, Nat.reduceMul, Nat.reducePow, Int.reduceLT, Int.reduceLE, Int.reduceEq, Nat.reduceEqDiff]
  refine ACallsK.eq (S6 _ (by repeat (first | exact HSub.refl h | refine HSub.put ?_ (by (try simp only [Heap.size_put, Heap.size_push, Heap.size_reserve]); omega) _ | refine HSub.push ?_ _ | refine HSub.reserve ?_ _))) ?_
  simp -implicitDefEqProofs (disch := first | assumption | decide | omega | (simp only [wpD1] <;> omega) | (simp only [wpD2] <;> assumption) | solve_by_elim [HSub.refl, HSub.push, HSub.reserve] | fail) only [↓wpPre, wpPost, wpPoly, Int.reduceToNat, Int.reducePow, Int.reduceMul, Int.reduceAdd, Int.reduceSub, Int.reduceNeg, Nat.reduceAdd, Nat.reduceMul, Nat.reducePow, Int.reduceLT, Int.reduceLE, Int.reduceEq, Nat.reduceEqDiff]
  refine wp_loopI (fun j t h' => ∃ (k : Nat) (pv : AV), HSub h h' ∧ GrwI h h' pv (prnK (1 + a6) k) ∧ (∀ i ∈ pv.ids, h.size + 1 < i) ∧ h.size + 1 < h'.size ∧ h'.get h.size = some (.cells [.int .i64 0, .int .i64 0, .int .i64 0, .int .i64 0, .int .i64 0, .int .i64 0, .int .i64 0, .nilslice] true 0) ∧
      h'.get (h.size + 1) = some (.cells [.int .i64 (5 + a0), .int .i64 (1 + a1), .int .i64 (1 + a2), .int .i64 2, .int .i64 (1 + a3), .int .i64 (1 + a3 + a5), .int .i64 a4, pv] true 0) ∧ t 0 = v ∧ t 2 = .ptr h.size 0 ∧ t 3 = .ptr (h.size + 1) 0 ∧ t 4 = .int .i64 (1 + a6) ∧ t 5 = .int .i64 (k : Nat) ∧ (k : Int) ≤ a7 + 1 ∧ j = (a7 + 1 - k).toNat) (j0 := (a7 + 1).toNat)
    ⟨0, .nilslice, (by repeat (first | exact HSub.refl h | refine HSub.put ?_ (by (try simp only [Heap.size_put, Heap.size_push, Heap.size_reserve]); omega) _ | refine HSub.push ?_ _ | refine HSub.reserve ?_ _)), GrwI.nil' (by repeat (first | exact HSub.refl h | refine HSub.put ?_ (by (try simp only [Heap.size_put, Heap.size_push, Heap.size_reserve]); omega) _ | refine HSub.push ?_ _ | refine HSub.reserve ?_ _)), by simp [AV.ids], by simp, by simp -implicitDefEqProofs (disch := first | assumption | decide | omega | (simp only [wpD1] <;> omega) | (simp only [wpD2] <;> assumption) | solve_by_elim [HSub.refl, HSub.push, HSub.reserve] | fail) only [↓wpPre, wpPost, wpPoly, Int.reduceToNat, Int.reducePow, Int.reduceMul, Int.reduceAdd, Int.reduceSub, Int.reduceNeg, Nat.reduceAdd, Nat.reduceMul, Nat.reducePow, Int.reduceLT, Int.reduceLE, Int.reduceEq, Nat.reduceEqDiff], by simp -implicitDefEqProofs (disch := first | assumption | decide | omega | (simp only [wpD1] <;> omega) | (simp only [wpD2] <;> assumption) | solve_by_elim [HSub.refl, HSub.push, HSub.reserve] | fail) only [↓wpPre, wpPost, wpPoly, Int.reduceToNat, Int.reducePow, Int.reduceMul, Int.reduceAdd, Int.reduceSub, Int.reduceNeg, Nat.reduceAdd, Nat.reduceMul, Nat.reducePow, Int.reduceLT, Int.reduceLE, Int.reduceEq, Nat.reduceEqDiff], rfl, rfl, rfl, rfl, rfl, by omega, by simp⟩ ?_
  rintro j t H ⟨k, pv, s1, A, hid, hz, g0, g1, e0, e2, e3, e4, e5, hk, hj⟩
  simp -implicitDefEqProofs (disch := first | assumption | decide | omega | (simp only [wpD1] <;> omega) | (simp only [wpD2] <;> assumption) | solve_by_elim [HSub.refl, HSub.push, HSub.reserve] | fail) only [↓wpPre, wpPost, wpPoly, Int.reduceToNat, Int.reducePow, Int.reduceMul, Int.reduceAdd, Int.reduceSub, Int.reduceNeg, Nat.reduceAdd, Nat.reduceMul, Nat.reducePow, Int.reduceLT, Int.reduceLE, Int.reduceEq, Nat.reduceEqDiff, e0, e5]
  refine ACallsK.eq (S7 _ s1) ?_
  simp -implicitDefEqProofs (disch := first | assumption | decide | omega | (simp only [wpD1] <;> omega) | (simp only [wpD2] <;> assumption) | solve_by_elim [HSub.refl, HSub.push, HSub.reserve] | fail) only [↓wpPre, wpPost, wpPoly, Int.reduceToNat, Int.reducePow, Int.reduceMul, Int.reduceAdd, Int.reduceSub, Int.reduceNeg, Nat.reduceAdd, Nat.reduceMul, Nat.reducePow, Int.reduceLT, Int.reduceLE, Int.reduceEq, Nat.reduceEqDiff, e5]
  refine Br.by (fun c => ?_) (fun c => ?_)
  · have pl := prnK_length (1 + a6) k
    have ps := prnK_succ (1 + a6) k
    have pone := A.ri.one
    have pcells := A.ri.cells
    have hk2 : k ≤ 3 := by omega
    have ap := fun (H' : Heap) (hH : HSub H H') => A.app (x := 1 + a6 + 4 * (k : Nat)) H' hH (by omega)
    have Ac := A.snoc (x := 1 + a6 + 4 * (k : Nat)) (HSub.push1 H (.cells [.int .i64 (1 + a6 + 4 * (k : Nat))] true 0)) (by omega)
    rw [← ps] at Ac
    have nn1 : h.size + 1 ∉ pv.ids := fun q => by have := hid _ q; omega
    have nn0 : h.size ∉ pv.ids := fun q => by have := hid _ q; omega
    have q1 : (snocH (H.push (.cells [.int .i64 (1 + a6 + 4 * (k : Nat))] true 0)) none pv 1 (ints (prnK (1 + a6) (k + 1)))).get (h.size + 1) = some (.cells [.int .i64 (5 + a0), .int .i64 (1 + a1), .int .i64 (1 + a2), .int .i64 2, .int .i64 (1 + a3), .int .i64 (1 + a3 + a5), .int .i64 a4, pv] true 0) := (snocN_ne (by simp only [Heap.size_push]; omega) nn1).trans ((get_push_lt (by omega)).trans g1)
    have q0 : (snocH (H.push (.cells [.int .i64 (1 + a6 + 4 * (k : Nat))] true 0)) none pv 1 (ints (prnK (1 + a6) (k + 1)))).get h.size = some (.cells [.int .i64 0, .int .i64 0, .int .i64 0, .int .i64 0, .int .i64 0, .int .i64 0, .int .i64 0, .nilslice] true 0) := (snocN_ne (by simp only [Heap.size_push]; omega) nn0).trans ((get_push_lt (by omega)).trans g0)
    have qz : (snocH (H.push (.cells [.int .i64 (1 + a6 + 4 * (k : Nat))] true 0)) none pv 1 (ints (prnK (1 + a6) (k + 1)))).size = H.size + 1 + 1 := snocN_size
    simp -implicitDefEqProofs (disch := first | assumption | decide | omega | (simp only [wpD1] <;> omega) | (simp only [wpD2] <;> assumption) | solve_by_elim [HSub.refl, HSub.push, HSub.reserve] | fail) only [↓wpPre, wpPost, wpPoly, Int.reduceToNat, Int.reducePow, Int.reduceMul, Int.reduceAdd, Int.reduceSub, Int.reduceNeg, Nat.reduceAdd, Nat.reduceMul, Nat.reducePow, Int.reduceLT, Int.reduceLE, Int.reduceEq, Nat.reduceEqDiff, e3, e4, e5, g1, cont_slice, contB_one, ap, ← ps]
    generalize hT : snocH (H.push (.cells [.int .i64 (1 + a6 + 4 * (k : Nat))] true 0)) none pv 1 (ints (prnK (1 + a6) (k + 1))) = T at *
    simp -implicitDefEqProofs (disch := first | assumption | decide | omega | (simp only [wpD1] <;> omega) | (simp only [wpD2] <;> assumption) | solve_by_elim [HSub.refl, HSub.push, HSub.reserve] | fail) only [↓wpPre, wpPost, wpPoly, Int.reduceToNat, Int.reducePow, Int.reduceMul, Int.reduceAdd, Int.reduceSub, Int.reduceNeg, Nat.reduceAdd, Nat.reduceMul, Nat.reducePow, Int.reduceLT, Int.reduceLE, Int.reduceEq, Nat.reduceEqDiff, q0, q1, qz, e0, e2, e3, e4, e5]
    have idn : ∀ i ∈ (AV.slice (H.size + 1) 0 ((prnK (1 + a6) k).length + 1) (.unk 0)).ids, i = H.size + 1 := fun i hi => by simpa [AV.ids] using hi
    have Ac2 := Ac.putNe (i := h.size + 1) (b := .cells [.int .i64 (5 + a0), .int .i64 (1 + a1), .int .i64 (1 + a2), .int .i64 2, .int .i64 (1 + a3), .int .i64 (1 + a3 + a5), .int .i64 a4, .slice (H.size + 1) 0 ((prnK (1 + a6) k).length + 1) (.unk 0)] true 0) (by omega) (fun j hj => by have := idn j hj; omega)
    exact ⟨_, ⟨k + 1, _, Ac2.sub, Ac2, fun i hi => by have := idn i hi; omega, by omega, rfl, by simp, by omega, rfl⟩, by omega⟩
  · have ek : (a7 + 1).toNat = k := by omega
    rw [ek]
    have pone := A.ri.one
    have pcells := A.ri.cells
    simp -implicitDefEqProofs (disch := first | assumption | decide | omega | (simp only [wpD1] <;> omega) | (simp only [wpD2] <;> assumption) | solve_by_elim [HSub.refl, HSub.push, HSub.reserve] | fail) only [↓wpPre, wpPost, wpPoly, Int.reduceToNat, Int.reducePow, Int.reduceMul, Int.reduceAdd, Int.reduceSub, Int.reduceNeg, Nat.reduceAdd, Nat.reduceMul, Nat.reducePow, Int.reduceLT, Int.reduceLE, Int.reduceEq, Nat.reduceEqDiff, e2, e3, g0, g1]
    exact ⟨(by repeat (first | exact s1 | refine HSub.put ?_ (by (try simp only [Heap.size_put, Heap.size_push, Heap.size_reserve]); omega) _ | refine HSub.push ?_ _ | refine HSub.reserve ?_ _)), pv, rfl, (A.putNe (by omega) (fun j hj => by have := hid j hj; omega)).ri⟩
end
end Go.Ae

/- Emitters that numbers select: the contract. -/
set_option linter.unusedSimpArgs false
set_option linter.unusedVariables false
namespace Go.Ae
section
variable {C : Ctx}
set_option maxHeartbeats 4000000 in
set_option maxRecDepth 20000 in
theorem EmitterOf_spec (hC : Has C T236) {v w : AV} {p : PlanP} {l : List Int} {h : Heap} (hp : PlI h w p) (pn : p.numsOk) (hp0 : 0 < p.prns.length) (h64 : p.ok64) (hl : RI h v l) (hx : ∀ x ∈ l, In64 x) :
    ACalls C 236 [w, .int .i64 0, v] h (fun r h' => HSub h h' ∧ EmI h' r (emitOf p l)) := by
  have hlt := hl.lt
  obtain ⟨vp, rfl, R⟩ := hp
  have v1 := R.one
  have plt := R.lt
  have sz := size_range pn
  have hN := lenN_eq pn.1
  have hlc := lenOk_cases pn.1
  have pm := pn.2.2.2.2
  have pbb := pn.2.2.1
  have po := pn.2.1
  have eN1 : ((lenN p.d + 1 : Nat) : Int) - 1 = lenN p.d := by omega
  have es : (lenN p.d : Int) * p.o = p.size := rfl
  have S := fun (i : Nat) (n : Int) (hn : 1 ≤ n ∧ n ≤ 9223372036854775807) h1 (q : HSub h h1) => Some_spec (hC.sub (T' := T45) (by decide)) (i := i) (hl.mono q) hx hn
  have T0 := fun h1 => Turn_spec (h := h1) (x := 0) (n := (p.prns.length : Int)) (hC.sub (T' := T23) (by decide)) (by unfold In64; omega) (by omega)
  rw [Int.zero_emod] at T0
  have h0 := someOf_range (l := l) (i := 0) (n := p.size) (by omega)
  have h1 := someOf_range (l := l) (i := 1) (n := 129) (by omega)
  have h2 := someOf_range (l := l) (i := 2) (n := 64) (by omega)
  have h3 := someOf_range (l := l) (i := 3) (n := 67108864) (by omega)
  have h4 := someOf_range (l := l) (i := 4) (n := 64) (by omega)
  have h5 := someOf_range (l := l) (i := 5) (n := p.mx - p.mn + 1) (by omega)
  have h6 := someOf_range (l := l) (i := 6) (n := p.pb) (by omega)
  have S0 := S 0 p.size (by omega)
  have S1 := S 1 129 (by omega)
  have S2 := S 2 64 (by omega)
  have S3 := S 3 67108864 (by omega)
  have S4 := S 4 64 (by omega)
  have S5 := S 5 (p.mx - p.mn + 1) (by omega)
  have S6 := S 6 p.pb (by omega)
  unfold EmI emitOf
  dsimp only
  generalize someOf l 0 p.size = a0 at *
  generalize someOf l 1 129 = a1 at *
  generalize someOf l 2 64 = a2 at *
  generalize someOf l 3 67108864 = a3 at *
  generalize someOf l 4 64 = a4 at *
  generalize someOf l 5 (p.mx - p.mn + 1) = a5 at *
  generalize someOf l 6 p.pb = a6 at *
  have R2 := fun b c => R.mono (((HSub.push1 h b).push c).reserve 51)
  have ld := fun b c => (R2 b c).load (k := 0) hp0
  have ix : idxA 1 vp (.int .i64 0) = some (elA 1 vp 0) := R.idx (kk := .i64) (k := (0 : Int)) ⟨by omega, by omega⟩
  generalize p.prns.getD 0 0 = pr at *
  generalize p.size = z at *
  obtain ⟨pd, o, pb, w, mn, mx, nz, prns⟩ := p
  dsimp only at *
  (refine calls_intro (hC.body (by decide) tab236) (Nat.le_of_ble_eq_true rfl) ?_); (show wp C _ none B236.code _ _); (simp only [B236]); simp -implicitDefEqProofs (disch := first | assumption | decide | omega | (simp only [wpD1] <;> omega) | (simp only [wpD2] <;> assumption) | solve_by_elim [HSub.refl, HSub.push, HSub.reserve] | fail) only [↓wpPre, wpPost, wpPoly, Int.reduceToNat, Int.reducePow, Int.reduceMul, Int.reduceAdd, Int.reduceSub, Int.reduceNeg, Nat.reduceAdd, Nat.reduceMul, Nat.reducePow, Int.reduceLT, Int.reduceLE, Int.reduceEq, Nat.reduceEqDiff, R.len, Int.one_mul, hN.2.2, eN1, es]
  refine ACallsK.eq (T0 _) ?_
  simp -implicitDefEqProofs (disch := first | assumption | decide | omega | (simp only [wpD1] <;> omega) | (simp only [wpD2] <;> assumption) | solve_by_elim [HSub.refl, HSub.push, HSub.reserve] | fail) only [↓wpPre, wpPost, wpPoly, Int.reduceToNat, Int.reducePow, Int.reduceMul, Int.reduceAdd, Int.reduceSub, Int.reduceNeg, Nat.reduceAdd, Nat.reduceMul, Nat.reducePow, Int.reduceLT, Int.reduceLE, Int.reduceEq, Nat.reduceEqDiff, ix, ld, Int.one_mul, hN.2.2, eN1, es]
  refine ACallsK.eq (S0 _ (by repeat (first | exact HSub.refl h | refine HSub.put ?_ (by (try simp only [Heap.size_put, Heap.size_push, Heap.size_reserve]); omega) _ | refine HSub.push ?_ _ | refine HSub.reserve ?_ _))) ?_
  simp -implicitDefEqProofs (disch := first | assumption | decide | omega | (simp only [wpD1] <;> omega) | (simp only [wpD2] <;> assumption) | solve_by_elim [HSub.refl, HSub.push, HSub.reserve] | fail) only [↓wpPre, wpPost, wpPoly, Int.reduceToNat, Int.reducePow, Int.reduceMul, Int.reduceAdd, Int.reduceSub, Int.reduceNeg, Nat.reduceAdd, Nat.reduceMul, Nat.reducePow, Int.reduceLT, Int.reduceLE, Int.reduceEq, Nat.reduceEqDiff]
  refine ACallsK.eq (S1 _ (by repeat (first | exact HSub.refl h | refine HSub.put ?_ (by (try simp only [Heap.size_put, Heap.size_push, Heap.size_reserve]); omega) _ | refine HSub.push ?_ _ | refine HSub.reserve ?_ _))) ?_
  simp -implicitDefEqProofs (disch := first | assumption | decide | omega | (simp only [wpD1] <;> omega) | (simp only [wpD2] <;> assumption) | solve_by_elim [HSub.refl, HSub.push, HSub.reserve] | fail) only [↓wpPre, wpPost, wpPoly, Int.reduceToNat, Int.reducePow, Int.reduceMul, Int.reduceAdd, Int.reduceSub, Int.reduceNeg, Nat.reduceAdd, Nat.reduceMul, Nat.reducePow, Int.reduceLT, Int.reduceLE, Int.reduceEq, Nat.reduceEqDiff]
  refine ACallsK.eq (S2 _ (by repeat (first | exact HSub.refl h | refine HSub.put ?_ (by (try simp only [Heap.size_put, Heap.size_push, Heap.size_reserve]); omega) _ | refine HSub.push ?_ _ | refine HSub.reserve ?_ _))) ?_
  simp -implicitDefEqProofs (disch := first | assumption | decide | omega | (simp only [wpD1] <;> omega) | (simp only [wpD2] <;> assumption) | solve_by_elim [HSub.refl, HSub.push, HSub.reserve] | fail) only [↓wpPre, wpPost, wpPoly, Int.reduceToNat, Int.reducePow, Int.reduceMul, Int.reduceAdd, Int.reduceSub, Int.reduceNeg, Nat.reduceAdd, Nat.reduceMul, Nat.reducePow, Int.reduceLT, Int.reduceLE, Int.reduceEq, Nat.reduceEqDiff]
  refine ACallsK.eq (S3 _ (by repeat (first | exact HSub.refl h | refine HSub.put ?_ (by (try simp only [Heap.size_put, Heap.size_push, Heap.size_reserve]); omega) _ | refine HSub.push ?_ _ | refine HSub.reserve ?_ _))) ?_
  simp -implicitDefEqProofs (disch := first | assumption | decide | omega | (simp only [wpD1] <;> omega) | (simp only [wpD2] <;> assumption) | solve_by_elim [HSub.refl, HSub.push, HSub.reserve] | fail) only [↓wpPre, wpPost, wpPoly, Int.reduceToNat, Int.reducePow, Int.reduceMul, Int.reduceAdd, Int.reduceSub, Int.reduceNeg, Nat.reduceAdd, Nat.reduceMul, Nat.reducePow, Int.reduceLT, Int.reduceLE, Int.reduceEq, Nat.reduceEqDiff]
  refine ACallsK.eq (S4 _ (by repeat (first | exact HSub.refl h | refine HSub.put ?_ (by (try simp only [Heap.size_put, Heap.size_push, Heap.size_reserve]); omega) _ | refine HSub.push ?_ _ | refine HSub.reserve ?_ _))) ?_
  simp -implicitDefEqProofs (disch := first | assumption | decide | omega | (simp only [wpD1] <;> omega) | (simp only [wpD2] <;> assumption) | solve_by_elim [HSub.refl, HSub.push, HSub.reserve] | fail) only [↓wpPre, wpPost, wpPoly, Int.reduceToNat, Int.reducePow, Int.reduceMul, Int.reduceAdd, Int.reduceSub, Int.reduceNeg, Nat.reduceAdd, Nat.reduceMul, Nat.reducePow, Int.reduceLT, Int.reduceLE, Int.reduceEq, Nat.reduceEqDiff]
  refine ACallsK.eq (S5 _ (by repeat (first | exact HSub.refl h | refine HSub.put ?_ (by (try simp only [Heap.size_put, Heap.size_push, Heap.size_reserve]); omega) _ | refine HSub.push ?_ _ | refine HSub.reserve ?_ _))) ?_
  simp -implicitDefEqProofs (disch := first | assumption | decide | omega | (simp only [wpD1] <;> omega) | (simp only [wpD2] <;> assumption) | solve_by_elim [HSub.refl, HSub.push, HSub.reserve] | fail) only [↓wpPre, wpPost, wpPoly, Int.reduceToNat, Int.reducePow, Int.reduceMul, Int.reduceAdd, Int.reduceSub, Int.reduceNeg, Nat.reduceAdd, Nat.reduceMul, Nat.reducePow, Int.reduceLT, Int.reduceLE, Int.reduceEq, Nat.reduceEqDiff]
  refine ACallsK.eq (S6 _ (by repeat (first | exact HSub.refl h | refine HSub.put ?_ (by (try simp only [Heap.size_put, Heap.size_push, Heap.size_reserve]); omega) _ | refine HSub.push ?_ _ | refine HSub.reserve ?_ _))) ?_
  simp -implicitDefEqProofs (disch := first | assumption | decide | omega | (simp only [wpD1] <;> omega) | (simp only [wpD2] <;> assumption) | solve_by_elim [HSub.refl, HSub.push, HSub.reserve] | fail) only [↓wpPre, wpPost, wpPoly, Int.reduceToNat, Int.reducePow, Int.reduceMul, Int.reduceAdd, Int.reduceSub, Int.reduceNeg, Nat.reduceAdd, Nat.reduceMul, Nat.reducePow, Int.reduceLT, Int.reduceLE, Int.reduceEq, Nat.reduceEqDiff, Heap.wf]
  refine wp_loopI (fun j t h' => ∃ (k : Nat) (bv : AV), GrwI h h' bv (bitK l k) ∧ (∀ i ∈ bv.ids, h.size + 1 + 1 + 49 < i) ∧ h.size + 1 + 1 + 49 < h'.size ∧ h'.get (h.size + 1) = some (.cells [.int .i64 0, .int .i64 0, .int .i64 0, .int .u32 0, .int .u32 0, .int .i64 0, .int .i64 0, .nilslice] true 0) ∧ h'.get (h.size + 1 + 1 + 49) = some (.cells [.int .i64 pr, .int .i64 a0, .int .i64 (a1 - 64), .int .u32 (a2 * 67108864 + a3), .int .u32 (a4 * 67108864), .int .i64 (mn + a5), .int .i64 a6, bv] true 0) ∧ t 2 = v ∧ t 6 = .ptr (h.size + 1) 0 ∧ t 7 = .ptr (h.size + 1 + 1 + 49) 0 ∧ t 8 = .int .i64 ((7 + k : Nat) : Int) ∧ k ≤ min l.length 20 - 7 ∧ j = min l.length 20 - 7 - k) (j0 := min l.length 20 - 7)
    ⟨0, .nilslice, GrwI.nil' (by repeat (first | exact HSub.refl h | refine HSub.put ?_ (by (try simp only [Heap.size_put, Heap.size_push, Heap.size_reserve]); omega) _ | refine HSub.push ?_ _ | refine HSub.reserve ?_ _)), by simp [AV.ids], by simp, by simp -implicitDefEqProofs (disch := first | assumption | decide | omega | (simp only [wpD1] <;> omega) | (simp only [wpD2] <;> assumption) | solve_by_elim [HSub.refl, HSub.push, HSub.reserve] | fail) only [↓wpPre, wpPost, wpPoly, Int.reduceToNat, Int.reducePow, Int.reduceMul, Int.reduceAdd, Int.reduceSub, Int.reduceNeg, Nat.reduceAdd, Nat.reduceMul, Nat.reducePow, Int.reduceLT, Int.reduceLE, Int.reduceEq, Nat.reduceEqDiff], by simp -implicitDefEqProofs (disch := first | assumption | decide | omega | (simp only [wpD1] <;> omega) | (simp only [wpD2] <;> assumption) | solve_by_elim [HSub.refl, HSub.push, HSub.reserve] | fail) only [↓wpPre, wpPost, wpPoly, Int.reduceToNat, Int.reducePow, Int.reduceMul, Int.reduceAdd, Int.reduceSub, Int.reduceNeg, Nat.reduceAdd, Nat.reduceMul, Nat.reducePow, Int.reduceLT, Int.reduceLE, Int.reduceEq, Nat.reduceEqDiff], rfl, rfl, rfl, rfl, by omega, rfl⟩ ?_
  rintro j t H ⟨k, bv, A, hid, hz, g0, g1, e2, e6, e7, e8, hk, hj⟩
  have bone := A.ri.one
  have hl1 := hl.mono A.sub
  by_cases c : 7 + k < l.length ∧ 7 + k < 20
  · have c1 : ((7 + k : Nat) : Int) < l.length := by omega
    have c2 : ((7 + k : Nat) : Int) < 20 := by omega
    have pl := bitK_length l k
    have ps := bitK_succ l k
    have hx1 := hx _ (getD_mem (i := 7 + k) c.1)
    have T1 := fun h1 => Turn_spec (h := h1) (x := l.getD (7 + k) 0) (n := 2) (hC.sub (T' := T23) (by decide)) hx1 (by omega)
    have ld := (hl.mono (A.sub.reserve 11)).load (k := 7 + k) c.1
    have ix := hl1.idx (kk := .i64) (k := ((7 + k : Nat) : Int)) ⟨by omega, by omega⟩
    rw [Int.toNat_natCast] at ix
    generalize hm : l.getD (7 + k) 0 % 2 = m at *
    simp -implicitDefEqProofs (disch := first | assumption | decide | omega | (simp only [wpD1] <;> omega) | (simp only [wpD2] <;> assumption) | solve_by_elim [HSub.refl, HSub.push, HSub.reserve] | fail) only [↓wpPre, wpPost, wpPoly, Int.reduceToNat, Int.reducePow, Int.reduceMul, Int.reduceAdd, Int.reduceSub, Int.reduceNeg, Nat.reduceAdd, Nat.reduceMul, Nat.reducePow, Int.reduceLT, Int.reduceLE, Int.reduceEq, Nat.reduceEqDiff, e2, e7, e8, hl1.len, gV_u, c1, c2, g1, ix, ld]
    refine ACallsK.eq (T1 _) ?_
    have hsH : HSub H ((H.reserve 11).put (H.size + 7) (.cells [.int .i64 m] true 0)) := ((HSub.refl H).reserve 11).put (by omega) _
    have hkk : H.size ≤ H.size + 8 ∧ H.size + 8 < ((H.reserve 11).put (H.size + 7) (.cells [.int .i64 m] true 0)).size := ⟨by omega, by simp only [Heap.size_put, Heap.size_reserve]; omega⟩
    have ap := A.appS (x := m) _ (H.size + 8) hsH hkk (by omega)
    have gN : ((H.reserve 11).put (H.size + 7) (.cells [.int .i64 m] true 0)).get (H.size + 8) = none := by
      rw [get_put_ne (by omega), Heap.get_reserve]; exact H.wf _ (by omega)
    have Ac := A.snocS (x := m) hsH hkk (by omega)
    rw [← ps] at ap Ac
    have nn1 : h.size + 1 + 1 + 49 ∉ bv.ids := fun q => by have := hid _ q; omega
    have nn0 : h.size + 1 ∉ bv.ids := fun q => by have := hid _ q; omega
    have q1 : (snocH ((H.reserve 11).put (H.size + 7) (.cells [.int .i64 m] true 0)) (some (H.size + 8)) bv 1 (ints (bitK l (k + 1)))).get (h.size + 1 + 1 + 49) = some (.cells [.int .i64 pr, .int .i64 a0, .int .i64 (a1 - 64), .int .u32 (a2 * 67108864 + a3), .int .u32 (a4 * 67108864), .int .i64 (mn + a5), .int .i64 a6, bv] true 0) := (snocS_ne (by omega) nn1).trans ((get_put_ne (by omega)).trans ((Heap.get_reserve _ _ _).trans g1))
    have q0 : (snocH ((H.reserve 11).put (H.size + 7) (.cells [.int .i64 m] true 0)) (some (H.size + 8)) bv 1 (ints (bitK l (k + 1)))).get (h.size + 1) = some (.cells [.int .i64 0, .int .i64 0, .int .i64 0, .int .u32 0, .int .u32 0, .int .i64 0, .int .i64 0, .nilslice] true 0) := (snocS_ne (by omega) nn0).trans ((get_put_ne (by omega)).trans ((Heap.get_reserve _ _ _).trans g0))
    have qz : (snocH ((H.reserve 11).put (H.size + 7) (.cells [.int .i64 m] true 0)) (some (H.size + 8)) bv 1 (ints (bitK l (k + 1)))).size = H.size + 11 := by rw [snocS_size]; simp only [Heap.size_put, Heap.size_reserve]
    simp -implicitDefEqProofs (disch := first | assumption | decide | omega | (simp only [wpD1] <;> omega) | (simp only [wpD2] <;> assumption) | solve_by_elim [HSub.refl, HSub.push, HSub.reserve] | fail) only [↓wpPre, wpPost, wpPoly, Int.reduceToNat, Int.reducePow, Int.reduceMul, Int.reduceAdd, Int.reduceSub, Int.reduceNeg, Nat.reduceAdd, Nat.reduceMul, Nat.reducePow, Int.reduceLT, Int.reduceLE, Int.reduceEq, Nat.reduceEqDiff, cont_slice, contB_one, ap, gN, appK_none, Heap.wf]
    generalize hT : (snocH ((H.reserve 11).put (H.size + 7) (.cells [.int .i64 m] true 0)) (some (H.size + 8)) bv 1 (ints (bitK l (k + 1)))) = T at *
    simp -implicitDefEqProofs (disch := first | assumption | decide | omega | (simp only [wpD1] <;> omega) | (simp only [wpD2] <;> assumption) | solve_by_elim [HSub.refl, HSub.push, HSub.reserve] | fail) only [↓wpPre, wpPost, wpPoly, Int.reduceToNat, Int.reducePow, Int.reduceMul, Int.reduceAdd, Int.reduceSub, Int.reduceNeg, Nat.reduceAdd, Nat.reduceMul, Nat.reducePow, Int.reduceLT, Int.reduceLE, Int.reduceEq, Nat.reduceEqDiff, q0, q1, qz, e2, e6, e7, e8]
    have idn : ∀ i ∈ (AV.slice (H.size + 8) 0 ((bitK l k).length + 1) (.unk 0)).ids, i = H.size + 8 := fun i hi => by simpa [AV.ids] using hi
    have Ac2 := fun b => Ac.putNe (i := h.size + 1 + 1 + 49) (b := b) (by omega) (fun j hj => by have := idn j hj; omega)
    exact ⟨_, ⟨k + 1, _, Ac2 _, fun i hi => by have := idn i hi; omega, by omega, rfl, by omega, by omega, rfl⟩, by omega⟩
  · have ek : min l.length 20 - 7 = k := by omega
    rw [ek]
    by_cases c1 : ((7 + k : Nat) : Int) < l.length
    · have c2 : ¬ ((7 + k : Nat) : Int) < 20 := by omega
      simp -implicitDefEqProofs (disch := first | assumption | decide | omega | (simp only [wpD1] <;> omega) | (simp only [wpD2] <;> assumption) | solve_by_elim [HSub.refl, HSub.push, HSub.reserve] | fail) only [↓wpPre, wpPost, wpPoly, Int.reduceToNat, Int.reducePow, Int.reduceMul, Int.reduceAdd, Int.reduceSub, Int.reduceNeg, Nat.reduceAdd, Nat.reduceMul, Nat.reducePow, Int.reduceLT, Int.reduceLE, Int.reduceEq, Nat.reduceEqDiff, e2, e6, e7, e8, hl1.len, gV_u, c1, c2, g0, g1]
      exact ⟨A.sub.put (by omega) _, bv, rfl, (A.putNe (by omega) (fun j hj => by have := hid j hj; omega)).ri⟩
    · simp -implicitDefEqProofs (disch := first | assumption | decide | omega | (simp only [wpD1] <;> omega) | (simp only [wpD2] <;> assumption) | solve_by_elim [HSub.refl, HSub.push, HSub.reserve] | fail) only [↓wpPre, wpPost, wpPoly, Int.reduceToNat, Int.reducePow, Int.reduceMul, Int.reduceAdd, Int.reduceSub, Int.reduceNeg, Nat.reduceAdd, Nat.reduceMul, Nat.reducePow, Int.reduceLT, Int.reduceLE, Int.reduceEq, Nat.reduceEqDiff, e2, e6, e7, e8, hl1.len, gV_u, c1, g0, g1]
      exact ⟨A.sub.put (by omega) _, bv, rfl, (A.putNe (by omega) (fun j hj => by have := hid j hj; omega)).ri⟩
end
end Go.Ae

/- A number, turned into a range. -/
set_option linter.unusedSimpArgs false
set_option linter.unusedVariables false
namespace Go.Ae
end Go.Ae

/- The statement on periods, of layer 12. -/
set_option linter.unusedSimpArgs false
set_option linter.unusedVariables false
namespace Go.Ae
theorem made_zero {p : PlanP} {e : EmitP} {n : Int} (h : emitErr p e = 0) (hn : -10000000 ≤ n ∧ n ≤ 10000000) : madeErr p e n = 0 := by
  unfold madeErr
  rw [if_pos h, if_neg (by omega)]
section
variable {C : Ctx}
end
end Go.Ae

/- The statement on emitters that do not drift, of layer 12. -/
set_option linter.unusedSimpArgs false
set_option linter.unusedVariables false
namespace Go.Ae
def still (e : EmitP) : EmitP := ⟨e.prn, e.dl, 0, 0, e.ph, e.amp, e.ba, []⟩
theorem still_err {p : PlanP} {e : EmitP} (h : emitErr p e = 0) : emitErr p (still e) = 0 := by
  unfold emitErr at h ⊢
  by_cases c : p.err = 0
  · rw [if_pos c] at h ⊢
    by_cases c2 : (p.prns.any fun y => e.prn == y) = true
    · rw [if_pos c2] at h
      rw [if_pos (show (p.prns.any fun y => (still e).prn == y) = true from c2)]
      by_cases c3 : e.numsOk p
      · have c4 : (still e).numsOk p := by
          unfold EmitP.numsOk still at *
          dsimp only
          omega
        rw [if_pos c4]
        rfl
      · rw [if_neg c3] at h; omega
    · rw [if_neg c2] at h; omega
  · rw [if_neg c] at h; omega
theorem still_64 {e : EmitP} (h : e.ok64) : (still e).ok64 := by
  obtain ⟨h1, h2, h3, h4, h5, h6, h7, h8⟩ := h
  exact ⟨h1, h2, by unfold still In64; simp, by unfold still U32; simp, h5, h6, h7, by simp [still]⟩
theorem still_sta {p : PlanP} {e : EmitP} (k : Int) : (still e).sta p k = e.dl + k * p.size := by
  unfold EmitP.sta stI still
  dsimp only
  rw [Int.mul_zero]; omega
theorem still_pl {p : PlanP} {e : EmitP} (ok : EmOk p (still e)) (n : Int) : (still e).pl p (n + p.size) = (still e).pl p n + 1 := by
  have s := size_range ok.pn
  have a := (st_gt ok (n := n) (k := (still e).pl p n)).2 (Int.le_refl _)
  have b : ¬ (still e).sta p ((still e).pl p n + 1) ≤ n := fun q => by have := (st_gt ok (n := n)).1 q; omega
  have e1 := still_sta (p := p) (e := e) ((still e).pl p n)
  have e2 := still_sta (p := p) (e := e) ((still e).pl p n + 1)
  have e3 := still_sta (p := p) (e := e) ((still e).pl p n + 1 + 1)
  have m1 : ((still e).pl p n + 1) * p.size = (still e).pl p n * p.size + p.size := by grind
  have m2 : ((still e).pl p n + 1 + 1) * p.size = (still e).pl p n * p.size + p.size + p.size := by grind
  refine (pl_of (dl := (still e).dl) ok.den ?_ ?_).symm
  · show (still e).sta p ((still e).pl p n + 1) ≤ n + p.size
    omega
  · show n + p.size < (still e).sta p ((still e).pl p n + 1 + 1)
    omega
theorem still_at {p : PlanP} {e : EmitP} (ok : EmOk p (still e)) (hph : U32 e.ph) (n : Int) : atV p (still e) (n + p.size) = atV p (still e) n ∧ (atV p (still e) n = (e.amp * (carP e.ph).1, e.amp * (carP e.ph).2) ∨ atV p (still e) n = ((0 - e.amp) * (carP e.ph).1, (0 - e.amp) * (carP e.ph).2)) := by
  have hb : ∀ k, bitI p (still e) k = 0 := fun k => rfl
  have hp : ∀ k, phI (still e).ph (still e).st k = e.ph := fun k => by
    rw [phI_eq]
    unfold U32 at hph
    show (e.ph + 0 * k) % 4294967296 = e.ph
    rw [Int.zero_mul]; omega
  have hs : n + p.size - (still e).sta p ((still e).pl p n + 1) = n - (still e).sta p ((still e).pl p n) := by
    rw [still_sta, still_sta]
    have m1 : ((still e).pl p n + 1) * p.size = (still e).pl p n * p.size + p.size := by grind
    omega
  have cp := chip_pm ok (ok.per n).1
  unfold atV
  rw [still_pl ok n, hs, hb, hb, hp, hp]
  refine ⟨rfl, ?_⟩
  rcases cp with c | c
  · left
    rw [c]
    show (e.amp * 1 * (1 - 2 * 0) * _, e.amp * 1 * (1 - 2 * 0) * _) = _
    simp
  · right
    rw [c]
    show (e.amp * (-1) * (1 - 2 * 0) * _, e.amp * (-1) * (1 - 2 * 0) * _) = _
    have : e.amp * (-1) * (1 - 2 * 0) = 0 - e.amp := by omega
    rw [this]
section
variable {C : Ctx}
set_option maxHeartbeats 4000000 in
set_option maxRecDepth 20000 in
theorem SignalRepeats_law (hC : Has C T215) {vl vm : AV} {l m : List Int} {n0 : Int} {h : Heap} (hl : RI h vl l) (hm : RI h vm m) (hn0 : In64 n0) (hx : ∀ x ∈ l, In64 x) (hy : ∀ x ∈ m, In64 x) :
    ACalls C 215 [vl, vm, .int .i64 n0] h (fun r _ => r = .bool true) := by
  have hlt := hl.lt
  have hmt := hm.lt
  have kn := fun h => known212_spec (hC.sub (T' := T212) (by decide)) (h := h)
  by_cases c0 : 20 < l.length ∨ 20 < m.length
  · (refine calls_intro (hC.body (by decide) tab215) (Nat.le_of_ble_eq_true rfl) ?_); (show wp C _ none B215.code _ _); (simp only [B215]); simp -implicitDefEqProofs (disch := first | assumption | decide | omega | (simp only [wpD1] <;> omega) | (simp only [wpD2] <;> assumption) | solve_by_elim [HSub.refl, HSub.push, HSub.reserve] | fail) only [↓wpPre, wpPost, wpPoly, Int.reduceToNat, Int.reducePow, Int.reduceMul, Int.reduceAdd, Int.reduceSub, Int.reduceNeg, Nat.reduceAdd, Nat.reduceMul, Nat.reducePow, Int.reduceLT, Int.reduceLE, Int.reduceEq, Nat.reduceEqDiff]
    refine ACallsK.eq (kn _) ?_
    (repeat' (first | (refine Br.by (fun _ => ?_) (fun _ => ?_)) | (simp -implicitDefEqProofs (disch := first | assumption | decide | omega | (simp only [wpD1] <;> omega) | (simp only [wpD2] <;> assumption) | solve_by_elim [HSub.refl, HSub.push, HSub.reserve] | fail) only [↓wpPre, wpPost, wpPoly, Int.reduceToNat, Int.reducePow, Int.reduceMul, Int.reduceAdd, Int.reduceSub, Int.reduceNeg, Nat.reduceAdd, Nat.reduceMul, Nat.reducePow, Int.reduceLT, Int.reduceLE, Int.reduceEq, Nat.reduceEqDiff, hl.len, hm.len, gV_u])))
    all_goals (exfalso; omega)
  have pn := planOf_nums l
  have pz := planOf_err l
  have p64 := planOf_64 l
  have pl0 : 0 < (planOf l).prns.length := by
    have h7 := someOf_range (l := l) (i := 7) (n := 3) (by omega)
    show 0 < (prnK _ _).length
    rw [prnK_length]; omega
  have kP := PlanOf_spec (hC.sub (T' := T235) (by decide)) hl hx
  have kE := fun w h1 (q : HSub h h1) (hp : PlI h1 w (planOf l)) => EmitterOf_spec (hC.sub (T' := T236) (by decide)) hp pn pl0 p64 (hm.mono q) hy
  have e64 := emitOf_64 (l := m) pn p64 pl0
  have ez := emitOf_err (l := m) pz
  generalize planOf l = p at *
  generalize emitOf p m = e at *
  have sz := size_range pn
  have hN := lenN_eq pn.1
  have hlc := lenOk_cases pn.1
  have po := pn.2.1
  have eN1 : ((lenN p.d + 1 : Nat) : Int) - 1 = lenN p.d := by omega
  have es : (lenN p.d : Int) * p.o = p.size := rfl
  have sz0 := still_err ez
  have s64 := still_64 e64
  have ok := emit_ok sz0
  have am := ok.en.2.2.1
  have pm := pn.2.2.2.2
  obtain ⟨n, hn⟩ : ∃ n, n = n0 % 20001 - 10000 := ⟨_, rfl⟩
  have hnr : -10000 ≤ n ∧ n ≤ 10001 := by omega
  have T1 := fun h1 => Turn_spec (h := h1) (x := n0) (n := 20001) (hC.sub (T' := T23) (by decide)) hn0 (by omega)
  have y1 := fun v w h1 (hp : PlI h1 v p) (he : EmI h1 w (still e)) => At_spec (hC.sub (T' := T229) (by decide)) (n := n) hp he p64 s64 (by unfold In64; omega)
  have y2 := fun v w h1 (hp : PlI h1 v p) (he : EmI h1 w (still e)) => At_spec (hC.sub (T' := T229) (by decide)) (n := n + p.size) hp he p64 s64 (by unfold In64; omega)
  have kc := fun h1 => CarrierR_spec (hC.sub (T' := T130) (by decide)) (h := h1) e64.2.2.2.2.1
  have x1 : atE p (still e) n = .tuple [smp (atV p (still e) n), .int .i64 0] := by unfold atE; rw [if_pos (made_zero sz0 (by omega))]
  have x2 : atE p (still e) (n + p.size) = .tuple [smp (atV p (still e) (n + p.size)), .int .i64 0] := by unfold atE; rw [if_pos (made_zero sz0 (by omega))]
  have sa := still_at ok e64.2.2.2.2.1 n
  rw [sa.1] at x2
  have sa := sa.2
  simp only [x1] at y1
  simp only [x2] at y2
  generalize atV p (still e) n = a at *
  have cl := carP_le e64.2.2.2.2.1
  generalize carP e.ph = t at *
  have amr : -1000 ≤ e.amp ∧ e.amp ≤ 1000 := by
    have : (still e).amp = e.amp := rfl
    omega
  have u1 := mul_le127 amr ⟨cl.1, cl.2.1⟩
  have u2 := mul_le127 amr ⟨cl.2.2.1, cl.2.2.2⟩
  have u3 := mul_le127 (x := 0 - e.amp) (B := 1000) (by omega) ⟨cl.1, cl.2.1⟩
  have u4 := mul_le127 (x := 0 - e.amp) (B := 1000) (by omega) ⟨cl.2.2.1, cl.2.2.2⟩
  obtain ⟨a1, a2⟩ := a
  obtain ⟨tx, ty⟩ := t
  unfold smp at y1 y2 kc
  dsimp only at *
  (refine calls_intro (hC.body (by decide) tab215) (Nat.le_of_ble_eq_true rfl) ?_); (show wp C _ none B215.code _ _); (simp only [B215]); simp -implicitDefEqProofs (disch := first | assumption | decide | omega | (simp only [wpD1] <;> omega) | (simp only [wpD2] <;> assumption) | solve_by_elim [HSub.refl, HSub.push, HSub.reserve] | fail) only [↓wpPre, wpPost, wpPoly, Int.reduceToNat, Int.reducePow, Int.reduceMul, Int.reduceAdd, Int.reduceSub, Int.reduceNeg, Nat.reduceAdd, Nat.reduceMul, Nat.reducePow, Int.reduceLT, Int.reduceLE, Int.reduceEq, Nat.reduceEqDiff]
  refine ACallsK.eq (kn _) ?_
  simp -implicitDefEqProofs (disch := first | assumption | decide | omega | (simp only [wpD1] <;> omega) | (simp only [wpD2] <;> assumption) | solve_by_elim [HSub.refl, HSub.push, HSub.reserve] | fail) only [↓wpPre, wpPost, wpPoly, Int.reduceToNat, Int.reducePow, Int.reduceMul, Int.reduceAdd, Int.reduceSub, Int.reduceNeg, Nat.reduceAdd, Nat.reduceMul, Nat.reducePow, Int.reduceLT, Int.reduceLE, Int.reduceEq, Nat.reduceEqDiff, hl.len, hm.len, gV_u]
  refine ACallsK.of kP ?_
  rintro w1 h1 ⟨s1, vp, rfl, R⟩
  have v1 := R.one
  simp -implicitDefEqProofs (disch := first | assumption | decide | omega | (simp only [wpD1] <;> omega) | (simp only [wpD2] <;> assumption) | solve_by_elim [HSub.refl, HSub.push, HSub.reserve] | fail) only [↓wpPre, wpPost, wpPoly, Int.reduceToNat, Int.reducePow, Int.reduceMul, Int.reduceAdd, Int.reduceSub, Int.reduceNeg, Nat.reduceAdd, Nat.reduceMul, Nat.reducePow, Int.reduceLT, Int.reduceLE, Int.reduceEq, Nat.reduceEqDiff]
  refine ACallsK.of (kE _ _ (s1.push _) ⟨vp, rfl, R.mono (HSub.push1 _ _)⟩) ?_
  rintro w2 h2 ⟨s2, vb, rfl, Bb⟩
  have b1 := Bb.one
  have gp : h2.get h1.size = some (.cells [.int .i64 p.d, .int .i64 p.o, .int .i64 p.pb, .int .i64 p.w, .int .i64 p.mn, .int .i64 p.mx, .int .i64 p.nz, vp] true 0) := (s2.get _ (by simp)).trans (get_push_eq rfl)
  have hz : h1.size < h2.size := by have := s2.size; simp only [Heap.size_push] at this; omega
  have R2 := R.mono ((HSub.push1 _ _).trans s2)
  have PP : ∀ H, HSub h2 H → PlI H (.agg [.int .i64 p.d, .int .i64 p.o, .int .i64 p.pb, .int .i64 p.w, .int .i64 p.mn, .int .i64 p.mx, .int .i64 p.nz, vp]) p := fun H q => ⟨vp, rfl, R2.mono q⟩
  have EE : ∀ H, EmI H (.agg [.int .i64 e.prn, .int .i64 e.dl, .int .i64 0, .int .u32 0, .int .u32 e.ph, .int .i64 e.amp, .int .i64 e.ba, .nilslice]) (still e) := fun H => ⟨.nilslice, rfl, RI.nil⟩
  have z1 := fun H (q : HSub h2 H) => y1 _ _ H (PP H q) (EE H)
  have z2 := fun H (q : HSub h2 H) => y2 _ _ H (PP H q) (EE H)
  rcases sa with sa | sa
  · injection sa with q1 q2
    subst q1
    subst q2
    simp -implicitDefEqProofs (disch := first | assumption | decide | omega | (simp only [wpD1] <;> omega) | (simp only [wpD2] <;> assumption) | solve_by_elim [HSub.refl, HSub.push, HSub.reserve] | fail) only [↓wpPre, wpPost, wpPoly, Int.reduceToNat, Int.reducePow, Int.reduceMul, Int.reduceAdd, Int.reduceSub, Int.reduceNeg, Nat.reduceAdd, Nat.reduceMul, Nat.reducePow, Int.reduceLT, Int.reduceLE, Int.reduceEq, Nat.reduceEqDiff]
    refine ACallsK.eq (T1 _) ?_
    simp -implicitDefEqProofs (disch := first | assumption | decide | omega | (simp only [wpD1] <;> omega) | (simp only [wpD2] <;> assumption) | solve_by_elim [HSub.refl, HSub.push, HSub.reserve] | fail) only [↓wpPre, wpPost, wpPoly, Int.reduceToNat, Int.reducePow, Int.reduceMul, Int.reduceAdd, Int.reduceSub, Int.reduceNeg, Nat.reduceAdd, Nat.reduceMul, Nat.reducePow, Int.reduceLT, Int.reduceLE, Int.reduceEq, Nat.reduceEqDiff, ← hn, gp, Int.one_mul, hN.2.2, eN1, es]
    refine ACallsK.eq (z1 _ (by repeat (first | exact HSub.refl h2 | refine HSub.put ?_ (by (try simp only [Heap.size_put, Heap.size_push, Heap.size_reserve]); omega) _ | refine HSub.push ?_ _ | refine HSub.reserve ?_ _))) ?_
    simp -implicitDefEqProofs (disch := first | assumption | decide | omega | (simp only [wpD1] <;> omega) | (simp only [wpD2] <;> assumption) | solve_by_elim [HSub.refl, HSub.push, HSub.reserve] | fail) only [↓wpPre, wpPost, wpPoly, Int.reduceToNat, Int.reducePow, Int.reduceMul, Int.reduceAdd, Int.reduceSub, Int.reduceNeg, Nat.reduceAdd, Nat.reduceMul, Nat.reducePow, Int.reduceLT, Int.reduceLE, Int.reduceEq, Nat.reduceEqDiff, gp]
    refine ACallsK.eq (z2 _ (by repeat (first | exact HSub.refl h2 | refine HSub.put ?_ (by (try simp only [Heap.size_put, Heap.size_push, Heap.size_reserve]); omega) _ | refine HSub.push ?_ _ | refine HSub.reserve ?_ _))) ?_
    simp -implicitDefEqProofs (disch := first | assumption | decide | omega | (simp only [wpD1] <;> omega) | (simp only [wpD2] <;> assumption) | solve_by_elim [HSub.refl, HSub.push, HSub.reserve] | fail) only [↓wpPre, wpPost, wpPoly, Int.reduceToNat, Int.reducePow, Int.reduceMul, Int.reduceAdd, Int.reduceSub, Int.reduceNeg, Nat.reduceAdd, Nat.reduceMul, Nat.reducePow, Int.reduceLT, Int.reduceLE, Int.reduceEq, Nat.reduceEqDiff]
    refine ACallsK.eq (kc _) ?_
    simp -implicitDefEqProofs (disch := first | assumption | decide | omega | (simp only [wpD1] <;> omega) | (simp only [wpD2] <;> assumption) | solve_by_elim [HSub.refl, HSub.push, HSub.reserve] | fail) only [↓wpPre, wpPost, wpPoly, Int.reduceToNat, Int.reducePow, Int.reduceMul, Int.reduceAdd, Int.reduceSub, Int.reduceNeg, Nat.reduceAdd, Nat.reduceMul, Nat.reducePow, Int.reduceLT, Int.reduceLE, Int.reduceEq, Nat.reduceEqDiff, eqs_two_f, gV_u]
  · injection sa with q1 q2
    subst q1
    subst q2
    simp -implicitDefEqProofs (disch := first | assumption | decide | omega | (simp only [wpD1] <;> omega) | (simp only [wpD2] <;> assumption) | solve_by_elim [HSub.refl, HSub.push, HSub.reserve] | fail) only [↓wpPre, wpPost, wpPoly, Int.reduceToNat, Int.reducePow, Int.reduceMul, Int.reduceAdd, Int.reduceSub, Int.reduceNeg, Nat.reduceAdd, Nat.reduceMul, Nat.reducePow, Int.reduceLT, Int.reduceLE, Int.reduceEq, Nat.reduceEqDiff]
    refine ACallsK.eq (T1 _) ?_
    simp -implicitDefEqProofs (disch := first | assumption | decide | omega | (simp only [wpD1] <;> omega) | (simp only [wpD2] <;> assumption) | solve_by_elim [HSub.refl, HSub.push, HSub.reserve] | fail) only [↓wpPre, wpPost, wpPoly, Int.reduceToNat, Int.reducePow, Int.reduceMul, Int.reduceAdd, Int.reduceSub, Int.reduceNeg, Nat.reduceAdd, Nat.reduceMul, Nat.reducePow, Int.reduceLT, Int.reduceLE, Int.reduceEq, Nat.reduceEqDiff, ← hn, gp, Int.one_mul, hN.2.2, eN1, es]
    refine ACallsK.eq (z1 _ (by repeat (first | exact HSub.refl h2 | refine HSub.put ?_ (by (try simp only [Heap.size_put, Heap.size_push, Heap.size_reserve]); omega) _ | refine HSub.push ?_ _ | refine HSub.reserve ?_ _))) ?_
    simp -implicitDefEqProofs (disch := first | assumption | decide | omega | (simp only [wpD1] <;> omega) | (simp only [wpD2] <;> assumption) | solve_by_elim [HSub.refl, HSub.push, HSub.reserve] | fail) only [↓wpPre, wpPost, wpPoly, Int.reduceToNat, Int.reducePow, Int.reduceMul, Int.reduceAdd, Int.reduceSub, Int.reduceNeg, Nat.reduceAdd, Nat.reduceMul, Nat.reducePow, Int.reduceLT, Int.reduceLE, Int.reduceEq, Nat.reduceEqDiff, gp]
    refine ACallsK.eq (z2 _ (by repeat (first | exact HSub.refl h2 | refine HSub.put ?_ (by (try simp only [Heap.size_put, Heap.size_push, Heap.size_reserve]); omega) _ | refine HSub.push ?_ _ | refine HSub.reserve ?_ _))) ?_
    simp -implicitDefEqProofs (disch := first | assumption | decide | omega | (simp only [wpD1] <;> omega) | (simp only [wpD2] <;> assumption) | solve_by_elim [HSub.refl, HSub.push, HSub.reserve] | fail) only [↓wpPre, wpPost, wpPoly, Int.reduceToNat, Int.reducePow, Int.reduceMul, Int.reduceAdd, Int.reduceSub, Int.reduceNeg, Nat.reduceAdd, Nat.reduceMul, Nat.reducePow, Int.reduceLT, Int.reduceLE, Int.reduceEq, Nat.reduceEqDiff]
    refine ACallsK.eq (kc _) ?_
    simp -implicitDefEqProofs (disch := first | assumption | decide | omega | (simp only [wpD1] <;> omega) | (simp only [wpD2] <;> assumption) | solve_by_elim [HSub.refl, HSub.push, HSub.reserve] | fail) only [↓wpPre, wpPost, wpPoly, Int.reduceToNat, Int.reducePow, Int.reduceMul, Int.reduceAdd, Int.reduceSub, Int.reduceNeg, Nat.reduceAdd, Nat.reduceMul, Nat.reducePow, Int.reduceLT, Int.reduceLE, Int.reduceEq, Nat.reduceEqDiff, eqs_two_f, gV_u]
    refine Br.by (fun c => ?_) (fun c => ?_)
    · simp -implicitDefEqProofs (disch := first | assumption | decide | omega | (simp only [wpD1] <;> omega) | (simp only [wpD2] <;> assumption) | solve_by_elim [HSub.refl, HSub.push, HSub.reserve] | fail) only [↓wpPre, wpPost, wpPoly, Int.reduceToNat, Int.reducePow, Int.reduceMul, Int.reduceAdd, Int.reduceSub, Int.reduceNeg, Nat.reduceAdd, Nat.reduceMul, Nat.reducePow, Int.reduceLT, Int.reduceLE, Int.reduceEq, Nat.reduceEqDiff, eqs_two_f, gV_u]
    · simp -implicitDefEqProofs (disch := first | assumption | decide | omega | (simp only [wpD1] <;> omega) | (simp only [wpD2] <;> assumption) | solve_by_elim [HSub.refl, HSub.push, HSub.reserve] | fail) only [↓wpPre, wpPost, wpPoly, Int.reduceToNat, Int.reducePow, Int.reduceMul, Int.reduceAdd, Int.reduceSub, Int.reduceNeg, Nat.reduceAdd, Nat.reduceMul, Nat.reducePow, Int.reduceLT, Int.reduceLE, Int.reduceEq, Nat.reduceEqDiff, eqs_two_f, gV_u]
end
end Go.Ae
