/- Texts of the proof, part 9: a second reading of the lowered code, proved sound, and what the functions compute. -/
import Derived.Test.YtdcellihijlekaaProg
import Derived.Test.YtdcellihijlekaaV8

namespace Go.Proofs.Ytdcellihijlekaa
open Go.Ae
noncomputable section
def invL : List (Option Nat) := [none, none, none, some 155, some 156, some 157, some 158, some 159, some 160, some 161, some 162, some 163, some 25, some 44, some 164, some 165, some 12, some 166, some 167, some 168, some 131, some 169, some 170, some 171, some 172, some 173, some 174, some 175, some 176, some 177, some 23, some 88, some 46, some 37, some 47, some 55, some 142, some 178, some 77, some 179, some 180, some 181, some 182, some 150, some 89, some 183, some 184, some 50, some 56, some 76, some 90, some 185, some 186, some 71, some 75, some 154, some 70, some 99, some 187, some 188, some 189, some 74, some 100, some 190, some 191, some 192, some 193, some 194, some 195, some 196, some 197, some 198, some 199, some 200, some 73, some 91, some 201, some 72, some 81, some 104, some 105, some 202, some 203, some 204, some 205, some 206, some 207, some 92, some 93, some 208, some 95, some 101, some 102, none, none, none, none, none, none, none, none, none, none, none, none, none, none, none, none, none]
def lkL : List Nat := [0, 0, 0, 0, 0, 0, 0, 0, 0, 0, 0, 0, 16, 0, 0, 0, 0, 0, 0, 0, 0, 0, 0, 30, 0, 12, 0, 0, 0, 0, 0, 0, 0, 0, 0, 0, 0, 33, 0, 0, 0, 0, 0, 0, 13, 0, 32, 34, 0, 0, 47, 0, 0, 0, 0, 35, 48, 0, 0, 0, 0, 0, 0, 0, 0, 0, 0, 0, 0, 0, 56, 53, 77, 74, 61, 54, 49, 38, 0, 0, 0, 78, 0, 0, 0, 0, 0, 0, 31, 44, 50, 75, 87, 88, 0, 90, 0, 0, 0, 57, 62, 91, 92, 0, 79, 80, 0, 0, 0, 0, 0, 0, 0, 0, 0, 0, 0, 0, 0, 0, 0, 0, 0, 0, 0, 0, 0, 0, 0, 0, 0, 20, 0, 0, 0, 0, 0, 0, 0, 0, 0, 0, 36, 0, 0, 0, 0, 0, 0, 0, 43, 0, 0, 0, 55, 3, 4, 5, 6, 7, 8, 9, 10, 11, 14, 15, 17, 18, 19, 21, 22, 23, 24, 25, 26, 27, 28, 29, 37, 39, 40, 41, 42, 45, 46, 51, 52, 58, 59, 60, 63, 64, 65, 66, 67, 68, 69, 70, 71, 72, 73, 76, 81, 82, 83, 84, 85, 86, 89]
theorem invOk : ((List.range invL.length).all fun f => match invL.getD f none with | some g => lkL.getD g 0 == f | none => true) = true := by decide +kernel
noncomputable def ctx : Ctx where
  P := Try.prog
  lk := fun g => lkL.getD g 0
  inv := fun f => invL.getD f none
  hinv := by
    intro f g h
    have hlt : f < invL.length := by
      rcases Nat.lt_or_ge f invL.length with x | x
      · exact x
      · rw [List.getD_eq_getElem?_getD, List.getElem?_eq_none x] at h; cases h
    have := List.all_eq_true.1 invOk f (by simpa using hlt)
    rw [h] at this
    simpa using this
  mixed := by kernel_rfl
theorem L157 : ctx.body 157 = some B157 := by kernel_rfl
theorem L161 : ctx.body 161 = some B161 := by kernel_rfl
theorem L163 : ctx.body 163 = some B163 := by kernel_rfl
theorem L25 : ctx.body 25 = some B25 := by kernel_rfl
theorem L164 : ctx.body 164 = some B164 := by kernel_rfl
theorem L12 : ctx.body 12 = some B12 := by kernel_rfl
theorem L166 : ctx.body 166 = some B166 := by kernel_rfl
theorem L167 : ctx.body 167 = some B167 := by kernel_rfl
theorem L131 : ctx.body 131 = some B131 := by kernel_rfl
theorem L170 : ctx.body 170 = some B170 := by kernel_rfl
theorem L172 : ctx.body 172 = some B172 := by kernel_rfl
theorem L173 : ctx.body 173 = some B173 := by kernel_rfl
theorem L175 : ctx.body 175 = some B175 := by kernel_rfl
theorem L23 : ctx.body 23 = some B23 := by kernel_rfl
theorem L46 : ctx.body 46 = some B46 := by kernel_rfl
theorem L37 : ctx.body 37 = some B37 := by kernel_rfl
theorem L47 : ctx.body 47 = some B47 := by kernel_rfl
theorem L142 : ctx.body 142 = some B142 := by kernel_rfl
theorem L178 : ctx.body 178 = some B178 := by kernel_rfl
theorem L180 : ctx.body 180 = some B180 := by kernel_rfl
theorem L150 : ctx.body 150 = some B150 := by kernel_rfl
theorem L89 : ctx.body 89 = some B89 := by kernel_rfl
theorem L183 : ctx.body 183 = some B183 := by kernel_rfl
theorem L50 : ctx.body 50 = some B50 := by kernel_rfl
theorem L56 : ctx.body 56 = some B56 := by kernel_rfl
theorem L76 : ctx.body 76 = some B76 := by kernel_rfl
theorem L90 : ctx.body 90 = some B90 := by kernel_rfl
theorem L185 : ctx.body 185 = some B185 := by kernel_rfl
theorem L186 : ctx.body 186 = some B186 := by kernel_rfl
theorem L154 : ctx.body 154 = some B154 := by kernel_rfl
theorem L70 : ctx.body 70 = some B70 := by kernel_rfl
theorem L99 : ctx.body 99 = some B99 := by kernel_rfl
theorem L187 : ctx.body 187 = some B187 := by kernel_rfl
theorem L188 : ctx.body 188 = some B188 := by kernel_rfl
theorem L189 : ctx.body 189 = some B189 := by kernel_rfl
theorem L74 : ctx.body 74 = some B74 := by kernel_rfl
theorem L100 : ctx.body 100 = some B100 := by kernel_rfl
theorem L190 : ctx.body 190 = some B190 := by kernel_rfl
theorem L191 : ctx.body 191 = some B191 := by kernel_rfl
theorem L192 : ctx.body 192 = some B192 := by kernel_rfl
theorem L193 : ctx.body 193 = some B193 := by kernel_rfl
theorem L194 : ctx.body 194 = some B194 := by kernel_rfl
theorem L195 : ctx.body 195 = some B195 := by kernel_rfl
theorem L196 : ctx.body 196 = some B196 := by kernel_rfl
theorem L197 : ctx.body 197 = some B197 := by kernel_rfl
theorem L198 : ctx.body 198 = some B198 := by kernel_rfl
theorem L199 : ctx.body 199 = some B199 := by kernel_rfl
theorem L200 : ctx.body 200 = some B200 := by kernel_rfl
theorem L201 : ctx.body 201 = some B201 := by kernel_rfl
theorem L72 : ctx.body 72 = some B72 := by kernel_rfl
theorem L81 : ctx.body 81 = some B81 := by kernel_rfl
theorem L104 : ctx.body 104 = some B104 := by kernel_rfl
theorem L105 : ctx.body 105 = some B105 := by kernel_rfl
theorem L202 : ctx.body 202 = some B202 := by kernel_rfl
theorem L203 : ctx.body 203 = some B203 := by kernel_rfl
theorem L204 : ctx.body 204 = some B204 := by kernel_rfl
theorem L205 : ctx.body 205 = some B205 := by kernel_rfl
theorem L206 : ctx.body 206 = some B206 := by kernel_rfl
theorem L207 : ctx.body 207 = some B207 := by kernel_rfl
theorem L92 : ctx.body 92 = some B92 := by kernel_rfl
theorem L93 : ctx.body 93 = some B93 := by kernel_rfl
theorem L208 : ctx.body 208 = some B208 := by kernel_rfl
theorem L95 : ctx.body 95 = some B95 := by kernel_rfl
theorem L101 : ctx.body 101 = some B101 := by kernel_rfl
theorem L102 : ctx.body 102 = some B102 := by kernel_rfl
def all : List Nat := [157, 161, 163, 25, 164, 12, 166, 167, 131, 170, 172, 173, 175, 23, 46, 37, 47, 142, 178, 180, 150, 89, 183, 50, 56, 76, 90, 185, 186, 154, 70, 99, 187, 188, 189, 74, 100, 190, 191, 192, 193, 194, 195, 196, 197, 198, 199, 200, 201, 72, 81, 104, 105, 202, 203, 204, 205, 206, 207, 92, 93, 208, 95, 101, 102]
theorem has : Has ctx all := by
  unfold Has all
  simp only [List.forall_mem_cons]
  refine ⟨?_, ?_, ?_, ?_, ?_, ?_, ?_, ?_, ?_, ?_, ?_, ?_, ?_, ?_, ?_, ?_, ?_, ?_, ?_, ?_, ?_, ?_, ?_, ?_, ?_, ?_, ?_, ?_, ?_, ?_, ?_, ?_, ?_, ?_, ?_, ?_, ?_, ?_, ?_, ?_, ?_, ?_, ?_, ?_, ?_, ?_, ?_, ?_, ?_, ?_, ?_, ?_, ?_, ?_, ?_, ?_, ?_, ?_, ?_, ?_, ?_, ?_, ?_, ?_, ?_, by simp⟩
  · intro b h; rw [tab157] at h; cases h; exact L157
  · intro b h; rw [tab161] at h; cases h; exact L161
  · intro b h; rw [tab163] at h; cases h; exact L163
  · intro b h; rw [tab25] at h; cases h; exact L25
  · intro b h; rw [tab164] at h; cases h; exact L164
  · intro b h; rw [tab12] at h; cases h; exact L12
  · intro b h; rw [tab166] at h; cases h; exact L166
  · intro b h; rw [tab167] at h; cases h; exact L167
  · intro b h; rw [tab131] at h; cases h; exact L131
  · intro b h; rw [tab170] at h; cases h; exact L170
  · intro b h; rw [tab172] at h; cases h; exact L172
  · intro b h; rw [tab173] at h; cases h; exact L173
  · intro b h; rw [tab175] at h; cases h; exact L175
  · intro b h; rw [tab23] at h; cases h; exact L23
  · intro b h; rw [tab46] at h; cases h; exact L46
  · intro b h; rw [tab37] at h; cases h; exact L37
  · intro b h; rw [tab47] at h; cases h; exact L47
  · intro b h; rw [tab142] at h; cases h; exact L142
  · intro b h; rw [tab178] at h; cases h; exact L178
  · intro b h; rw [tab180] at h; cases h; exact L180
  · intro b h; rw [tab150] at h; cases h; exact L150
  · intro b h; rw [tab89] at h; cases h; exact L89
  · intro b h; rw [tab183] at h; cases h; exact L183
  · intro b h; rw [tab50] at h; cases h; exact L50
  · intro b h; rw [tab56] at h; cases h; exact L56
  · intro b h; rw [tab76] at h; cases h; exact L76
  · intro b h; rw [tab90] at h; cases h; exact L90
  · intro b h; rw [tab185] at h; cases h; exact L185
  · intro b h; rw [tab186] at h; cases h; exact L186
  · intro b h; rw [tab154] at h; cases h; exact L154
  · intro b h; rw [tab70] at h; cases h; exact L70
  · intro b h; rw [tab99] at h; cases h; exact L99
  · intro b h; rw [tab187] at h; cases h; exact L187
  · intro b h; rw [tab188] at h; cases h; exact L188
  · intro b h; rw [tab189] at h; cases h; exact L189
  · intro b h; rw [tab74] at h; cases h; exact L74
  · intro b h; rw [tab100] at h; cases h; exact L100
  · intro b h; rw [tab190] at h; cases h; exact L190
  · intro b h; rw [tab191] at h; cases h; exact L191
  · intro b h; rw [tab192] at h; cases h; exact L192
  · intro b h; rw [tab193] at h; cases h; exact L193
  · intro b h; rw [tab194] at h; cases h; exact L194
  · intro b h; rw [tab195] at h; cases h; exact L195
  · intro b h; rw [tab196] at h; cases h; exact L196
  · intro b h; rw [tab197] at h; cases h; exact L197
  · intro b h; rw [tab198] at h; cases h; exact L198
  · intro b h; rw [tab199] at h; cases h; exact L199
  · intro b h; rw [tab200] at h; cases h; exact L200
  · intro b h; rw [tab201] at h; cases h; exact L201
  · intro b h; rw [tab72] at h; cases h; exact L72
  · intro b h; rw [tab81] at h; cases h; exact L81
  · intro b h; rw [tab104] at h; cases h; exact L104
  · intro b h; rw [tab105] at h; cases h; exact L105
  · intro b h; rw [tab202] at h; cases h; exact L202
  · intro b h; rw [tab203] at h; cases h; exact L203
  · intro b h; rw [tab204] at h; cases h; exact L204
  · intro b h; rw [tab205] at h; cases h; exact L205
  · intro b h; rw [tab206] at h; cases h; exact L206
  · intro b h; rw [tab207] at h; cases h; exact L207
  · intro b h; rw [tab92] at h; cases h; exact L92
  · intro b h; rw [tab93] at h; cases h; exact L93
  · intro b h; rw [tab208] at h; cases h; exact L208
  · intro b h; rw [tab95] at h; cases h; exact L95
  · intro b h; rw [tab101] at h; cases h; exact L101
  · intro b h; rw [tab102] at h; cases h; exact L102
end
end Go.Proofs.Ytdcellihijlekaa

/- Blocks that nothing names any more are forgotten when a call comes back. -/
namespace Go.Ae
section
variable {C : Ctx}

theorem ACalls.gc0 {g : Nat} {args : List AV} {h : Heap} {P : AV → Heap → Prop} {Q : AV → Heap → Prop} (hc : ACalls C g args h P)
    (hq : ∀ r h', P r h' → (r.free ∧ HSub h h' ∧ Q r h)) : ACalls C g args h Q := by
  refine ⟨hc.1, fun keep env w R hb => ?_⟩
  refine (hc.2 keep env w R hb).mono ?_
  rintro e w' ⟨env1, r, h1, rfl, hP, R1, K1, X1, L1, _⟩
  obtain ⟨hf, hs, hQ⟩ := hq r h1 hP
  have hget : ∀ i b, h.get i = some b → h1.get i = some b := fun i b hb => (hs.get i (Heap.lt_of_get hb)).trans hb
  refine ⟨env1, r, h, rfl, hQ, ?_, K1, X1, HLe.refl _, bel_mono (fun _ hh => hh.elim) r hf⟩
  exact ⟨fun i b hi => R1.lt i b (hget i b hi), fun i b hi => R1.blk i b (hget i b hi), fun i j b c hi hj => R1.disj i j b c (hget i b hi) (hget j c hj), R.bel,
    fun i b hi => R1.kept i b (hget i b hi), R1.keepLt, fun i b hi => R1.hid i b (hget i b hi), R1.hidLt⟩

theorem free_tuple {vs : List AV} (h : ∀ v ∈ vs, v.free) : (AV.tuple vs).free := (bels_iff _ _).2 h

theorem wp_loopI {nt : Nat} {rd : Option Nat} {c : ACode} {Q : Out → St → Prop} {t : Nat → AV} {h : Heap} {m : List Nat} (I : Nat → (Nat → AV) → Heap → Prop) {j0 : Nat} (h0 : I j0 t h)
    (step : ∀ j t' h', I j t' h' → wp C nt rd c (thenO (fun st' => st'.m = m ∧ ∃ i, I i st'.t st'.h ∧ i < j) Q) ⟨t', h', m⟩) : wp C nt rd (.loop c) Q ⟨t, h, m⟩ :=
  wp_loop (I := fun j st => st.m = m ∧ I j st.t st.h) (j0 := j0) ⟨rfl, h0⟩
    (fun j u h' m' _ hI => by
      obtain ⟨hm, hI⟩ := hI
      have hm : m' = m := hm
      subst hm
      refine wp_mono ?_ (step j _ _ hI)
      intro o st' hq
      cases o with
      | normal => obtain ⟨a, i, b, d⟩ := hq; exact ⟨i, d, a, b⟩
      | exit id => exact hq
      | ret => exact hq)
    (fun hQ hw => wp_mono hQ hw)
end
end Go.Ae

/- Parts of slices, lists that grow, and ranges over functions. -/
namespace Go.Ae

/-! ### Parts of slices -/
def loI : Option AV → Option Int
  | some v => intA v
  | none => some 0
def hiI (len : Nat) (mx : Bool) : Option AV → Option Int
  | some v => intA v
  | none => if mx then none else some (len : Int)
def mxI (cap : Nat) : Option AV → Option Int
  | some v => intA v
  | none => some (cap : Int)
theorem bounds_eq (len cap : Nat) (lo hi mx : Option AV) : boundsA len cap lo hi mx = (match mxI cap mx, hiI len mx.isSome hi, loI lo with
  | some m, some hh, some l => if 0 ≤ l ∧ l ≤ hh ∧ hh ≤ m ∧ m ≤ cap then some (l.toNat, hh.toNat, m.toNat) else none
  | _, _, _ => none) := by
  cases lo <;> cases hi <;> cases mx <;> rfl
theorem bounds_ok {len cap : Nat} {lo hi mx : Option AV} {a b c : Nat} (hlo : loI lo = some (a : Int)) (hhi : hiI len mx.isSome hi = some (b : Int))
    (hmx : mxI cap mx = some (c : Int)) (hab : a ≤ b ∧ b ≤ c ∧ c ≤ cap) : boundsA len cap lo hi mx = some (a, b, c) := by
  rw [bounds_eq, hlo, hhi, hmx]
  dsimp only
  rw [if_pos (by omega)]; simp

theorem SL.part {h : Heap} {sz n : Nat} {v : AV} {cs : List AV} (H : SL h sz v n cs) {lo hi mx : Option AV} {a b c : Nat} (hlo : loI lo = some (a : Int))
    (hhi : hiI n mx.isSome hi = some (b : Int)) (hmx : ∀ m, mx = some m → intA m = some (c : Int)) (hab : a ≤ b ∧ b ≤ n ∧ (mx.isSome = true → b ≤ c ∧ c ≤ n)) (hne : a < b ∨ a = 0 ∨ mx.isSome = true) :
    ∃ v', sliceA h sz v lo hi mx = some v' ∧ SL h sz v' (b - a) (cut cs (a * sz) ((b - a) * sz)) := by
  obtain ⟨hl, hlt, ⟨rfl, rfl⟩ | ⟨i, o, cp, vs, wr, u, rfl, hg, hle, hc, hcap⟩⟩ := H
  · have ea : a = 0 := by omega
    have eb : b = 0 := by omega
    subst ea eb
    have : cs = [] := List.eq_nil_of_length_eq_zero (by omega)
    subst this
    refine ⟨.nilslice, ?_, by simp [cut], by omega, .inl ⟨rfl, rfl⟩⟩
    cases mx with
    | none => simp only [sliceA]; rw [bounds_ok (a := 0) (b := 0) (c := 0) hlo hhi rfl (by omega)]
    | some m =>
      have hc0 : c = 0 := by have := hab.2.2 rfl; omega
      subst hc0
      simp only [sliceA]; rw [bounds_ok (a := 0) (b := 0) (c := 0) hlo hhi (hmx _ rfl) (by omega)]
  · have hb : b * sz ≤ n * sz := Nat.mul_le_mul_right _ hab.2.1
    have hba : (b - a) * sz = b * sz - a * sz := Nat.sub_mul _ _ _
    have hab' : a * sz ≤ b * sz := Nat.mul_le_mul_right _ hab.1
    have hlen : (cut cs (a * sz) ((b - a) * sz)).length = (b - a) * sz := by
      simp only [cut, List.length_take, List.length_drop, hl]; omega
    have hcut : cut vs (o + a * sz) ((b - a) * sz) = cut cs (a * sz) ((b - a) * sz) := by
      subst hc
      simp only [cut, List.drop_take, List.drop_drop, List.take_take]
      rw [Nat.min_eq_left (by omega)]
    have key : ∀ (cc : Nat), b ≤ cc → cc ≤ n ∨ mx = none → (match cp with | .known c0 => cc ≤ c0 | .unk _ => cc ≤ n) →
        (∀ m, mx = some m → intA m = some (cc : Int)) → (mx = none → match cp with | .known c0 => cc = c0 | .unk _ => cc = n) →
        ∃ v', sliceA h sz (.slice i o n cp) lo hi mx = some v' ∧ SL h sz v' (b - a) (cut cs (a * sz) ((b - a) * sz)) := by
      intro cc h1 h2 h3 h4 h5
      cases cp with
      | known c0 =>
        have hbd : boundsA n c0 lo hi mx = some (a, b, cc) := by
          refine bounds_ok hlo hhi ?_ ⟨hab.1, h1, h3⟩
          cases mx with
          | none => have h5 := h5 rfl; simp only at h5; subst h5; rfl
          | some m => exact h4 m rfl
        simp only [sliceA, hbd]
        by_cases e : cc = a
        · subst e
          have : b = cc := by omega
          subst this
          refine ⟨_, rfl, ?_, by omega, .inr ⟨i, o, _, vs, wr, u, by rw [if_pos rfl], hg, by simp; omega, by simp [cut], by simp⟩⟩
          simp [cut]
        · refine ⟨_, rfl, hlen, by omega, .inr ⟨i, o + a * sz, _, vs, wr, u, by rw [if_neg e], hg, by omega, hcut, by dsimp only; omega⟩⟩
      | unk l0 =>
        obtain ⟨rfl, rfl, rfl⟩ := hcap
        have hbd : boundsA n n lo hi mx = some (a, b, cc) := by
          refine bounds_ok hlo hhi ?_ ⟨hab.1, h1, h3⟩
          cases mx with
          | none => have h5 := h5 rfl; simp only at h5; subst h5; rfl
          | some m => exact h4 m rfl
        simp only [sliceA, hg]
        rw [if_pos ⟨trivial, trivial, hle⟩]
        simp only [hbd]
        cases mx with
        | none =>
          simp only [Option.isSome_none, Bool.false_eq_true, if_false]
          rw [if_pos (by simp at hne; omega)]
          exact ⟨_, rfl, hlen, by omega, .inr ⟨i, l0 * u + a * u, _, vs, true, u, rfl, hg, by omega, hcut, rfl, rfl, by rw [Nat.add_mul]⟩⟩
        | some m =>
          simp only [Option.isSome_some, if_true]
          by_cases e : cc = a
          · subst e
            have : b = cc := by omega
            subst this
            refine ⟨_, rfl, ?_, by omega, .inr ⟨i, l0 * u, _, vs, true, u, by rw [if_pos rfl], hg, by simp; omega, by simp [cut], by simp⟩⟩
            simp [cut]
          · exact ⟨_, rfl, hlen, by omega, .inr ⟨i, l0 * u + a * u, _, vs, true, u, by rw [if_neg e], hg, by omega, hcut, by dsimp only; omega⟩⟩
    cases mx with
    | some m =>
      have := hab.2.2 rfl
      refine key c this.1 (.inl this.2) ?_ hmx (by intro h; cases h)
      cases cp with
      | known c0 => exact Nat.le_trans this.2 hcap
      | unk l0 => exact this.2
    | none =>
      cases cp with
      | known c0 => exact key c0 (Nat.le_trans hab.2.1 hcap) (.inr rfl) (Nat.le_refl _) (by intro m h; cases h) (fun _ => rfl)
      | unk l0 => exact key n hab.2.1 (.inr rfl) (Nat.le_refl _) (by intro m h; cases h) (fun _ => rfl)

theorem RI.part {h : Heap} {v : AV} {l : List Int} (H : RI h v l) {lo hi mx : Option AV} {a b c : Nat} (hlo : loI lo = some (a : Int))
    (hhi : hiI l.length mx.isSome hi = some (b : Int)) (hmx : ∀ m, mx = some m → intA m = some (c : Int)) (hab : a ≤ b ∧ b ≤ l.length ∧ (mx.isSome = true → b ≤ c ∧ c ≤ l.length)) (hne : a < b ∨ a = 0 ∨ mx.isSome = true) :
    ∃ v', sliceA h 1 v lo hi mx = some v' ∧ RI h v' ((l.drop a).take (b - a)) := by
  obtain ⟨v', e, H'⟩ := SL.part H hlo hhi hmx hab hne
  refine ⟨v', e, ?_⟩
  have hl : ((l.drop a).take (b - a)).length = b - a := by simp; omega
  unfold RI
  rw [hl]
  rw [Nat.mul_one, Nat.mul_one, ints_cut] at H'
  exact H'

theorem SL.same {h h' : Heap} {sz n : Nat} {v : AV} {cs : List AV} (H : SL h sz v n cs) (hs : HSub h h') {s2 : Nat} {lo hi mx : Option AV} : sliceA h' s2 v lo hi mx = sliceA h s2 v lo hi mx := by
  obtain ⟨hl, hlt, ⟨rfl, rfl⟩ | ⟨i, o, cp, vs, wr, u, rfl, hg, _⟩⟩ := H
  · rfl
  · have e : h'.get i = h.get i := hs.get i (Heap.lt_of_get hg)
    cases cp with
    | known c => rfl
    | unk l => simp only [sliceA, e]

section
variable {h : Heap} {v : AV} {l : List Int} {k1 k2 k3 : IntKind} {a b c : Int}
theorem RI.part0_b (H : RI h v l) (hab : 0 ≤ b ∧ b ≤ l.length) : ∃ v', sliceA h 1 v none (some (.int k2 b)) none = some v' ∧ RI h v' (l.take b.toNat) := by
  have := H.part (lo := none) (hi := some (.int k2 b)) (mx := none) (a := 0) (b := b.toNat) (c := 0) rfl (by simp only [hiI, intA]; congr 1; omega) (by intro m e; cases e) (by simp; omega) (by omega)
  simpa using this
theorem RI.part_b (H : RI h v l) (hab : 0 ≤ b ∧ b ≤ l.length) : ∃ v', (∀ h', HSub h h' → sliceA h' 1 v none (some (.int k2 b)) none = some v') ∧ RI h v' (l.take b.toNat) := by
  obtain ⟨v', e, r⟩ := RI.part0_b (k2 := k2) H hab
  exact ⟨v', fun h' hs => (SL.same H hs).trans e, r⟩
end


/-! ### Appending -/
def appKB (h : Heap) (nid : Option Nat) (sz bytes i o n c m : Nat) (news : List AV) : Option ABlk → Option (AV × Heap)
  | some (.cells vs true u) => if o + n * sz ≤ vs.length then
        if n + m ≤ c then
          if o + (n + m) * sz ≤ vs.length ∧ news.all AV.one = true then some (.slice i o (n + m) (.known c), h.put i (.cells (splice vs (o + n * sz) news) true u)) else none
        else if (n + m) * bytes ≤ 2 ^ 40 ∧ h.room nid = true then some (.slice (h.nid nid) 0 (n + m) (.unk 0), h.new nid (.cells (cut vs o (n * sz) ++ news) true sz)) else none
      else none
  | some (.cells vs false _) => if o + n * sz ≤ vs.length ∧ c < n + m ∧ (n + m) * bytes ≤ 2 ^ 40 ∧ h.room nid = true then
        some (.slice (h.nid nid) 0 (n + m) (.unk 0), h.new nid (.cells (cut vs o (n * sz) ++ news) true sz)) else none
  | _ => none
theorem app_known {h nid sz bytes i o n c m news} (hm : m ≠ 0) : appendA h nid sz bytes (.slice i o n (.known c)) m news = appKB h nid sz bytes i o n c m news (h.get i) := by
  simp only [appendA, if_neg hm, appKB]
  cases h.get i with
  | none => rfl
  | some b => cases b with
    | cells vs wr u => cases wr <;> rfl
    | _ => rfl

theorem appKB_grow {h : Heap} {sz bytes i o n c m : Nat} {news vs : List AV} {u : Nat} (h1 : o + n * sz ≤ vs.length) (h2 : c < n + m) (h3 : (n + m) * bytes ≤ 1099511627776) :
    appKB h none sz bytes i o n c m news (some (.cells vs true u)) = some (.slice h.size 0 (n + m) (.unk 0), h.push (.cells (cut vs o (n * sz) ++ news) true sz)) := by
  simp only [appKB]
  rw [if_pos h1, if_neg (by omega), if_pos ⟨h3, rfl⟩]; rfl
theorem appKB_room {h : Heap} {nid : Option Nat} {sz bytes i o n c m : Nat} {news vs : List AV} {u : Nat} (h1 : o + n * sz ≤ vs.length) (h2 : n + m ≤ c) (h3 : o + (n + m) * sz ≤ vs.length) (h4 : news.all AV.one = true) :
    appKB h nid sz bytes i o n c m news (some (.cells vs true u)) = some (.slice i o (n + m) (.known c), h.put i (.cells (splice vs (o + n * sz) news) true u)) := by
  simp only [appKB]
  rw [if_pos h1, if_pos h2, if_pos ⟨h3, h4⟩]
def appUB (h : Heap) (nid : Option Nat) (sz bytes i o n l m : Nat) (news : List AV) : Option ABlk → Option (AV × Heap)
  | some (.cells vs true u) => if u = sz ∧ o = l * sz ∧ o + n * sz ≤ vs.length ∧ news.all AV.one = true ∧ (n + m) * bytes ≤ 2 ^ 40 ∧ h.room nid = true ∧ 0 < m then
        some (.slice (h.nid nid) 0 (n + m) (.unk 0), (h.put i .dead).new nid (.cells (cut vs o (n * sz) ++ news) true sz))
      else if u = sz ∧ o = l * sz ∧ o + n * sz ≤ vs.length ∧ m = 0 then some (.slice i o n (.unk l), h) else none
  | _ => none
theorem app_unk {h nid sz bytes i o n l m news} : appendA h nid sz bytes (.slice i o n (.unk l)) m news = appUB h nid sz bytes i o n l m news (h.get i) := by
  simp only [appendA, appUB]
  cases h.get i with
  | none => rfl
  | some b => cases b with
    | cells vs wr u => cases wr <;> rfl
    | _ => rfl
theorem appUB_grow {h : Heap} {sz bytes i n m : Nat} {news vs : List AV} (h1 : n * sz ≤ vs.length) (h2 : 0 < m) (h3 : (n + m) * bytes ≤ 1099511627776) (h4 : news.all AV.one = true) :
    appUB h none sz bytes i 0 n 0 m news (some (.cells vs true sz)) = some (.slice h.size 0 (n + m) (.unk 0), (h.put i .dead).push (.cells (cut vs 0 (n * sz) ++ news) true sz)) := by
  simp only [appUB]
  rw [if_pos ⟨trivial, by omega, by omega, h4, h3, rfl, h2⟩]; rfl
theorem app_nil {h : Heap} {sz bytes m : Nat} {news : List AV} (h1 : m ≠ 0) (h2 : m * bytes ≤ 1099511627776) : appendA h none sz bytes .nilslice m news = some (.slice h.size 0 m (.unk 0), h.push (.cells news true sz)) := by
  simp only [appendA, if_neg h1]
  rw [if_pos ⟨h2, rfl⟩]; rfl
theorem app_nil0 {h : Heap} {nid : Option Nat} {sz bytes : Nat} {news : List AV} : appendA h nid sz bytes .nilslice 0 news = some (.nilslice, h) := rfl
theorem appA_some {nid sz bytes h s m news} : appA nid sz bytes h s (some (m, news)) = appendA h nid sz bytes s m news := rfl

/-! ### Ranges over functions -/
section
variable {C : Ctx}
class HoldL where
  run : ALoop → Prop
def atLoop (o : Option ABlk) [K : HoldL] : Prop :=
  match o with
  | some (.loop r) => K.run r
  | _ => False
theorem atLoop_some {r : ALoop} {K : ALoop → Prop} : @atLoop (some (.loop r)) ⟨K⟩ = K r := rfl
theorem atLoop_iff {o : Option ABlk} {K : ALoop → Prop} : @atLoop o ⟨K⟩ ↔ ∃ r, o = some (.loop r) ∧ K r := by
  cases o with
  | none => simp [atLoop]
  | some b => cases b <;> simp [atLoop]
theorem beginO_normal {nt l : Nat} {body : ACode} {Post : AV → Heap → Prop} {st : St} : beginO C nt l body Post .normal st =
    @atLoop (st.h.get l) ⟨fun r => r.state = .ready ∧ wp C nt (some l) body (roundO l Post) ⟨st.t, st.h.put l (.loop { r with state := .busy }), st.m⟩⟩ := by
  simp only [beginO, true_and]; exact propext atLoop_iff.symm
theorem roundO_normal {l : Nat} {Post : AV → Heap → Prop} {st : St} : roundO l Post .normal st =
    @atLoop (st.h.get l) ⟨fun r => Post (.bool true) (st.h.put l (.loop { r with state := .ready, pend := none }))⟩ := by
  simp only [roundO, ne_eq, not_true_eq_false, false_implies, true_implies, and_true]; exact propext atLoop_iff.symm
theorem roundO_exit {l i : Nat} {Post : AV → Heap → Prop} {st : St} : roundO l Post (.exit i) st =
    @atLoop (st.h.get l) ⟨fun r => Post (.bool false) (st.h.put l (.loop { r with state := .done, pend := some (.exit i) }))⟩ := by
  simp only [roundO, ne_eq, reduceCtorEq, not_false_eq_true, false_implies, true_implies, true_and]; exact propext atLoop_iff.symm
theorem roundO_ret {l : Nat} {Post : AV → Heap → Prop} {st : St} : roundO l Post .ret st =
    @atLoop (st.h.get l) ⟨fun r => Post (.bool false) (st.h.put l (.loop { r with state := .done, pend := some .ret }))⟩ := by
  simp only [roundO, ne_eq, reduceCtorEq, not_false_eq_true, false_implies, true_implies, true_and]; exact propext atLoop_iff.symm
theorem setParams_nil {t : Nat → AV} : setParams t [] [] = t := rfl
theorem setParams_cons {t : Nat → AV} {p : Nat} {ps : List Nat} {a : AV} {xs : List AV} : setParams t (p :: ps) (a :: xs) = setParams (upd t p a) ps xs := rfl

abbrev loop0 (t : Nat → AV) (nt : Nat) (ps : List Nat) (a b : ACode) (d : Nat) : ALoop := { state := .ready, pend := none, t := t, nt := nt, params := ps, assign := a, body := b, defers := d }

theorem ACallsK.hide {g : Nat} {args : List AV} {h : Heap} {K : HoldR} (k : ∀ H, H = h → @ACallsK C g args H K) : @ACallsK C g args h K := k h rfl
theorem ACalls.hideLoop {g : Nat} {args : List AV} {h : Heap} {d : ABlk} {r : ALoop} {P : AV → Heap → Prop} (k : ∀ R, R = r → ACalls C g args ((h.push d).push (.loop R)) P) : ACalls C g args ((h.push d).push (.loop r)) P := k r rfl
theorem loop_back {R : ALoop} (h1 : R.state = .ready) (h2 : R.pend = none) : ({ state := .ready, pend := none, t := R.t, nt := R.nt, params := R.params, assign := R.assign, body := R.body, defers := R.defers } : ALoop) = R := by
  cases R; cases h1; cases h2; rfl
def atDefd (o : Option ABlk) [K : Hold] : Prop :=
  match o with
  | some (.defd true) => K.run
  | _ => False
theorem atDefd_some {p : Prop} : @atDefd (some (.defd true)) ⟨p⟩ = p := rfl
theorem retO_marks {res Post t h i m} : retO res Post .ret ⟨t, h, i :: m⟩ = @atDefd (h.get i) ⟨retO res Post .ret ⟨t, h.put i (.defd false), m⟩⟩ := by
  simp only [retO, closeMarks, atDefd]
  cases h.get i with
  | none => rfl
  | some b => cases b with
    | defd o => cases o <;> rfl
    | _ => rfl
theorem retO_marksN {res Post t h i m} : retO res Post .normal ⟨t, h, i :: m⟩ = @atDefd (h.get i) ⟨retO res Post .normal ⟨t, h.put i (.defd false), m⟩⟩ := by
  simp only [retO, closeMarks, atDefd]
  cases h.get i with
  | none => rfl
  | some b => cases b with
    | defd o => cases o <;> rfl
    | _ => rfl

theorem wpRange_none {nt g : Nat} {f c : List AV} {ps : List Nat} {a b : ACode} {Q : Out → St → Prop} {t : Nat → AV} {h : Heap} {m : List Nat} {D : Heap → Prop}
    (hc : ACalls C g (f ++ [.yield (h.size + 1)] ++ c) ((h.push (.defd true)).push (.loop (loop0 t nt ps a b h.size))) (fun _ h' => D h'))
    (hk : ∀ h', D h' → ∃ r, h'.get (h.size + 1) = some (.loop r) ∧ r.state ≠ .busy ∧ Q (r.pend.getD .normal) ⟨t, h'.put (h.size + 1) (.loop { r with state := .exhausted }), h.size :: m⟩) :
    wpRange C nt none (.func g f c) ps a b Q ⟨t, h, m⟩ := by
  show ACalls C g _ _ _
  exact hc.mono fun _ h' => hk h'
end
end Go.Ae
