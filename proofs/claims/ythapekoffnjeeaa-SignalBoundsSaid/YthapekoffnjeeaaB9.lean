/- Texts of the proof, part 9: a second reading of the lowered code, proved sound, and what the functions compute. -/
import Derived.Test.YthapekoffnjeeaaProg
import Derived.Test.YthapekoffnjeeaaB8

namespace Go.Proofs.Ythapekoffnjeeaa
open Go.Ae
noncomputable section
def invL : List (Option Nat) := [none, none, none, some 209, some 210, some 211, some 212, some 213, some 214, some 215, some 216, some 217, some 218, some 219, some 220, some 221, some 222, some 223, some 224, some 225, some 226, some 227, some 228, some 229, some 230, some 231, some 232, some 123, some 233, some 234, some 235, some 236, some 23, some 130, some 131, some 173, some 175, some 70, some 237, some 89, some 71, some 238, some 239, some 240, some 241, some 242, some 37, some 243, some 244, some 245, some 246, some 247, some 248, some 249, some 250, some 77, some 251, some 252, some 253, some 254, some 255, some 256, some 257, some 45, some 141, some 142, some 183, some 99, some 76, some 258, some 50, some 135, some 143, some 75, some 139, some 259, some 260, some 261, some 149, some 150, some 90, some 187, some 188, some 189, some 180, some 74, some 146, some 73, some 91, some 262, some 100, some 201, some 154, some 72, some 81, some 151, some 152, some 104, some 105, some 92, some 93, some 153, some 95, some 101, some 102, none, none, none, none, none, none, none, none, none, none, none, none, none, none, none, none, none]
def lkL : List Nat := [0, 0, 0, 0, 0, 0, 0, 0, 0, 0, 0, 0, 0, 0, 0, 0, 0, 0, 0, 0, 0, 0, 0, 32, 0, 0, 0, 0, 0, 0, 0, 0, 0, 0, 0, 0, 0, 46, 0, 0, 0, 0, 0, 0, 0, 63, 0, 0, 0, 0, 70, 0, 0, 0, 0, 0, 0, 0, 0, 0, 0, 0, 0, 0, 0, 0, 0, 0, 0, 0, 37, 40, 93, 87, 85, 73, 68, 55, 0, 0, 0, 94, 0, 0, 0, 0, 0, 0, 0, 39, 80, 88, 99, 100, 0, 102, 0, 0, 0, 67, 90, 103, 104, 0, 97, 98, 0, 0, 0, 0, 0, 0, 0, 0, 0, 0, 0, 0, 0, 0, 0, 0, 0, 27, 0, 0, 0, 0, 0, 0, 33, 34, 0, 0, 0, 71, 0, 0, 0, 74, 0, 64, 65, 72, 0, 0, 86, 0, 0, 78, 79, 95, 96, 101, 92, 0, 0, 0, 0, 0, 0, 0, 0, 0, 0, 0, 0, 0, 0, 0, 0, 0, 0, 35, 0, 36, 0, 0, 0, 0, 84, 0, 0, 66, 0, 0, 0, 81, 82, 83, 0, 0, 0, 0, 0, 0, 0, 0, 0, 0, 0, 91, 0, 0, 0, 0, 0, 0, 0, 3, 4, 5, 6, 7, 8, 9, 10, 11, 12, 13, 14, 15, 16, 17, 18, 19, 20, 21, 22, 23, 24, 25, 26, 28, 29, 30, 31, 38, 41, 42, 43, 44, 45, 47, 48, 49, 50, 51, 52, 53, 54, 56, 57, 58, 59, 60, 61, 62, 69, 75, 76, 77, 89]
theorem invOk : ((List.range invL.length).all fun f => match invL.getD f none with | some g => lkL.getD g 0 == f | none => true) = true := by decide +kernel
noncomputable def ctx : Ctx where
  P := Try.prog
  lk := fun g => lkL.getD g 0
  inv := fun f => invL.getD f none
  hinv := by
    intro f g h
    have hlt : f < invL.length := by
      rcases Nat.lt_or_ge f invL.length with x | x
      · exact x
      · rw [List.getD_eq_getElem?_getD, List.getElem?_eq_none x] at h; cases h
    have := List.all_eq_true.1 invOk f (by simpa using hlt)
    rw [h] at this
    simpa using this
  mixed := by kernel_rfl
theorem L212 : ctx.body 212 = some B212 := by kernel_rfl
theorem L216 : ctx.body 216 = some B216 := by kernel_rfl
theorem L218 : ctx.body 218 = some B218 := by kernel_rfl
theorem L219 : ctx.body 219 = some B219 := by kernel_rfl
theorem L221 : ctx.body 221 = some B221 := by kernel_rfl
theorem L223 : ctx.body 223 = some B223 := by kernel_rfl
theorem L225 : ctx.body 225 = some B225 := by kernel_rfl
theorem L227 : ctx.body 227 = some B227 := by kernel_rfl
theorem L229 : ctx.body 229 = some B229 := by kernel_rfl
theorem L231 : ctx.body 231 = some B231 := by kernel_rfl
theorem L233 : ctx.body 233 = some B233 := by kernel_rfl
theorem L234 : ctx.body 234 = some B234 := by kernel_rfl
theorem L235 : ctx.body 235 = some B235 := by kernel_rfl
theorem L236 : ctx.body 236 = some B236 := by kernel_rfl
theorem L23 : ctx.body 23 = some B23 := by kernel_rfl
theorem L131 : ctx.body 131 = some B131 := by kernel_rfl
theorem L173 : ctx.body 173 = some B173 := by kernel_rfl
theorem L175 : ctx.body 175 = some B175 := by kernel_rfl
theorem L70 : ctx.body 70 = some B70 := by kernel_rfl
theorem L237 : ctx.body 237 = some B237 := by kernel_rfl
theorem L89 : ctx.body 89 = some B89 := by kernel_rfl
theorem L238 : ctx.body 238 = some B238 := by kernel_rfl
theorem L239 : ctx.body 239 = some B239 := by kernel_rfl
theorem L242 : ctx.body 242 = some B242 := by kernel_rfl
theorem L37 : ctx.body 37 = some B37 := by kernel_rfl
theorem L243 : ctx.body 243 = some B243 := by kernel_rfl
theorem L245 : ctx.body 245 = some B245 := by kernel_rfl
theorem L247 : ctx.body 247 = some B247 := by kernel_rfl
theorem L249 : ctx.body 249 = some B249 := by kernel_rfl
theorem L250 : ctx.body 250 = some B250 := by kernel_rfl
theorem L252 : ctx.body 252 = some B252 := by kernel_rfl
theorem L253 : ctx.body 253 = some B253 := by kernel_rfl
theorem L254 : ctx.body 254 = some B254 := by kernel_rfl
theorem L255 : ctx.body 255 = some B255 := by kernel_rfl
theorem L256 : ctx.body 256 = some B256 := by kernel_rfl
theorem L257 : ctx.body 257 = some B257 := by kernel_rfl
theorem L45 : ctx.body 45 = some B45 := by kernel_rfl
theorem L142 : ctx.body 142 = some B142 := by kernel_rfl
theorem L183 : ctx.body 183 = some B183 := by kernel_rfl
theorem L99 : ctx.body 99 = some B99 := by kernel_rfl
theorem L76 : ctx.body 76 = some B76 := by kernel_rfl
theorem L50 : ctx.body 50 = some B50 := by kernel_rfl
theorem L135 : ctx.body 135 = some B135 := by kernel_rfl
theorem L143 : ctx.body 143 = some B143 := by kernel_rfl
theorem L259 : ctx.body 259 = some B259 := by kernel_rfl
theorem L260 : ctx.body 260 = some B260 := by kernel_rfl
theorem L261 : ctx.body 261 = some B261 := by kernel_rfl
theorem L150 : ctx.body 150 = some B150 := by kernel_rfl
theorem L90 : ctx.body 90 = some B90 := by kernel_rfl
theorem L187 : ctx.body 187 = some B187 := by kernel_rfl
theorem L188 : ctx.body 188 = some B188 := by kernel_rfl
theorem L189 : ctx.body 189 = some B189 := by kernel_rfl
theorem L180 : ctx.body 180 = some B180 := by kernel_rfl
theorem L74 : ctx.body 74 = some B74 := by kernel_rfl
theorem L146 : ctx.body 146 = some B146 := by kernel_rfl
theorem L262 : ctx.body 262 = some B262 := by kernel_rfl
theorem L100 : ctx.body 100 = some B100 := by kernel_rfl
theorem L201 : ctx.body 201 = some B201 := by kernel_rfl
theorem L154 : ctx.body 154 = some B154 := by kernel_rfl
theorem L72 : ctx.body 72 = some B72 := by kernel_rfl
theorem L81 : ctx.body 81 = some B81 := by kernel_rfl
theorem L151 : ctx.body 151 = some B151 := by kernel_rfl
theorem L152 : ctx.body 152 = some B152 := by kernel_rfl
theorem L104 : ctx.body 104 = some B104 := by kernel_rfl
theorem L105 : ctx.body 105 = some B105 := by kernel_rfl
theorem L92 : ctx.body 92 = some B92 := by kernel_rfl
theorem L93 : ctx.body 93 = some B93 := by kernel_rfl
theorem L153 : ctx.body 153 = some B153 := by kernel_rfl
theorem L95 : ctx.body 95 = some B95 := by kernel_rfl
theorem L101 : ctx.body 101 = some B101 := by kernel_rfl
theorem L102 : ctx.body 102 = some B102 := by kernel_rfl
def all : List Nat := [212, 216, 218, 219, 221, 223, 225, 227, 229, 231, 233, 234, 235, 236, 23, 131, 173, 175, 70, 237, 89, 238, 239, 242, 37, 243, 245, 247, 249, 250, 252, 253, 254, 255, 256, 257, 45, 142, 183, 99, 76, 50, 135, 143, 259, 260, 261, 150, 90, 187, 188, 189, 180, 74, 146, 262, 100, 201, 154, 72, 81, 151, 152, 104, 105, 92, 93, 153, 95, 101, 102]
theorem has : Has ctx all := by
  unfold Has all
  simp only [List.forall_mem_cons]
  refine ⟨?_, ?_, ?_, ?_, ?_, ?_, ?_, ?_, ?_, ?_, ?_, ?_, ?_, ?_, ?_, ?_, ?_, ?_, ?_, ?_, ?_, ?_, ?_, ?_, ?_, ?_, ?_, ?_, ?_, ?_, ?_, ?_, ?_, ?_, ?_, ?_, ?_, ?_, ?_, ?_, ?_, ?_, ?_, ?_, ?_, ?_, ?_, ?_, ?_, ?_, ?_, ?_, ?_, ?_, ?_, ?_, ?_, ?_, ?_, ?_, ?_, ?_, ?_, ?_, ?_, ?_, ?_, ?_, ?_, ?_, ?_, by simp⟩
  · intro b h; rw [tab212] at h; cases h; exact L212
  · intro b h; rw [tab216] at h; cases h; exact L216
  · intro b h; rw [tab218] at h; cases h; exact L218
  · intro b h; rw [tab219] at h; cases h; exact L219
  · intro b h; rw [tab221] at h; cases h; exact L221
  · intro b h; rw [tab223] at h; cases h; exact L223
  · intro b h; rw [tab225] at h; cases h; exact L225
  · intro b h; rw [tab227] at h; cases h; exact L227
  · intro b h; rw [tab229] at h; cases h; exact L229
  · intro b h; rw [tab231] at h; cases h; exact L231
  · intro b h; rw [tab233] at h; cases h; exact L233
  · intro b h; rw [tab234] at h; cases h; exact L234
  · intro b h; rw [tab235] at h; cases h; exact L235
  · intro b h; rw [tab236] at h; cases h; exact L236
  · intro b h; rw [tab23] at h; cases h; exact L23
  · intro b h; rw [tab131] at h; cases h; exact L131
  · intro b h; rw [tab173] at h; cases h; exact L173
  · intro b h; rw [tab175] at h; cases h; exact L175
  · intro b h; rw [tab70] at h; cases h; exact L70
  · intro b h; rw [tab237] at h; cases h; exact L237
  · intro b h; rw [tab89] at h; cases h; exact L89
  · intro b h; rw [tab238] at h; cases h; exact L238
  · intro b h; rw [tab239] at h; cases h; exact L239
  · intro b h; rw [tab242] at h; cases h; exact L242
  · intro b h; rw [tab37] at h; cases h; exact L37
  · intro b h; rw [tab243] at h; cases h; exact L243
  · intro b h; rw [tab245] at h; cases h; exact L245
  · intro b h; rw [tab247] at h; cases h; exact L247
  · intro b h; rw [tab249] at h; cases h; exact L249
  · intro b h; rw [tab250] at h; cases h; exact L250
  · intro b h; rw [tab252] at h; cases h; exact L252
  · intro b h; rw [tab253] at h; cases h; exact L253
  · intro b h; rw [tab254] at h; cases h; exact L254
  · intro b h; rw [tab255] at h; cases h; exact L255
  · intro b h; rw [tab256] at h; cases h; exact L256
  · intro b h; rw [tab257] at h; cases h; exact L257
  · intro b h; rw [tab45] at h; cases h; exact L45
  · intro b h; rw [tab142] at h; cases h; exact L142
  · intro b h; rw [tab183] at h; cases h; exact L183
  · intro b h; rw [tab99] at h; cases h; exact L99
  · intro b h; rw [tab76] at h; cases h; exact L76
  · intro b h; rw [tab50] at h; cases h; exact L50
  · intro b h; rw [tab135] at h; cases h; exact L135
  · intro b h; rw [tab143] at h; cases h; exact L143
  · intro b h; rw [tab259] at h; cases h; exact L259
  · intro b h; rw [tab260] at h; cases h; exact L260
  · intro b h; rw [tab261] at h; cases h; exact L261
  · intro b h; rw [tab150] at h; cases h; exact L150
  · intro b h; rw [tab90] at h; cases h; exact L90
  · intro b h; rw [tab187] at h; cases h; exact L187
  · intro b h; rw [tab188] at h; cases h; exact L188
  · intro b h; rw [tab189] at h; cases h; exact L189
  · intro b h; rw [tab180] at h; cases h; exact L180
  · intro b h; rw [tab74] at h; cases h; exact L74
  · intro b h; rw [tab146] at h; cases h; exact L146
  · intro b h; rw [tab262] at h; cases h; exact L262
  · intro b h; rw [tab100] at h; cases h; exact L100
  · intro b h; rw [tab201] at h; cases h; exact L201
  · intro b h; rw [tab154] at h; cases h; exact L154
  · intro b h; rw [tab72] at h; cases h; exact L72
  · intro b h; rw [tab81] at h; cases h; exact L81
  · intro b h; rw [tab151] at h; cases h; exact L151
  · intro b h; rw [tab152] at h; cases h; exact L152
  · intro b h; rw [tab104] at h; cases h; exact L104
  · intro b h; rw [tab105] at h; cases h; exact L105
  · intro b h; rw [tab92] at h; cases h; exact L92
  · intro b h; rw [tab93] at h; cases h; exact L93
  · intro b h; rw [tab153] at h; cases h; exact L153
  · intro b h; rw [tab95] at h; cases h; exact L95
  · intro b h; rw [tab101] at h; cases h; exact L101
  · intro b h; rw [tab102] at h; cases h; exact L102
end
end Go.Proofs.Ythapekoffnjeeaa

/- Blocks that nothing names any more are forgotten when a call comes back. -/
namespace Go.Ae
section
variable {C : Ctx}

theorem ACalls.gc0 {g : Nat} {args : List AV} {h : Heap} {P : AV → Heap → Prop} {Q : AV → Heap → Prop} (hc : ACalls C g args h P)
    (hq : ∀ r h', P r h' → (r.free ∧ HSub h h' ∧ Q r h)) : ACalls C g args h Q := by
  refine ⟨hc.1, fun keep env w R hb => ?_⟩
  refine (hc.2 keep env w R hb).mono ?_
  rintro e w' ⟨env1, r, h1, rfl, hP, R1, K1, X1, L1, _⟩
  obtain ⟨hf, hs, hQ⟩ := hq r h1 hP
  have hget : ∀ i b, h.get i = some b → h1.get i = some b := fun i b hb => (hs.get i (Heap.lt_of_get hb)).trans hb
  refine ⟨env1, r, h, rfl, hQ, ?_, K1, X1, HLe.refl _, bel_mono (fun _ hh => hh.elim) r hf⟩
  exact ⟨fun i b hi => R1.lt i b (hget i b hi), fun i b hi => R1.blk i b (hget i b hi), fun i j b c hi hj => R1.disj i j b c (hget i b hi) (hget j c hj), R.bel,
    fun i b hi => R1.kept i b (hget i b hi), R1.keepLt, fun i b hi => R1.hid i b (hget i b hi), R1.hidLt⟩

theorem free_tuple {vs : List AV} (h : ∀ v ∈ vs, v.free) : (AV.tuple vs).free := (bels_iff _ _).2 h

theorem wp_loopI {nt : Nat} {rd : Option Nat} {c : ACode} {Q : Out → St → Prop} {t : Nat → AV} {h : Heap} {m : List Nat} (I : Nat → (Nat → AV) → Heap → Prop) {j0 : Nat} (h0 : I j0 t h)
    (step : ∀ j t' h', I j t' h' → wp C nt rd c (thenO (fun st' => st'.m = m ∧ ∃ i, I i st'.t st'.h ∧ i < j) Q) ⟨t', h', m⟩) : wp C nt rd (.loop c) Q ⟨t, h, m⟩ :=
  wp_loop (I := fun j st => st.m = m ∧ I j st.t st.h) (j0 := j0) ⟨rfl, h0⟩
    (fun j u h' m' _ hI => by
      obtain ⟨hm, hI⟩ := hI
      have hm : m' = m := hm
      subst hm
      refine wp_mono ?_ (step j _ _ hI)
      intro o st' hq
      cases o with
      | normal => obtain ⟨a, i, b, d⟩ := hq; exact ⟨i, d, a, b⟩
      | exit id => exact hq
      | ret => exact hq)
    (fun hQ hw => wp_mono hQ hw)
end
end Go.Ae

/- Parts of slices, lists that grow, and ranges over functions. -/
namespace Go.Ae

/-! ### Parts of slices -/
def loI : Option AV → Option Int
  | some v => intA v
  | none => some 0
def hiI (len : Nat) (mx : Bool) : Option AV → Option Int
  | some v => intA v
  | none => if mx then none else some (len : Int)
def mxI (cap : Nat) : Option AV → Option Int
  | some v => intA v
  | none => some (cap : Int)
theorem bounds_eq (len cap : Nat) (lo hi mx : Option AV) : boundsA len cap lo hi mx = (match mxI cap mx, hiI len mx.isSome hi, loI lo with
  | some m, some hh, some l => if 0 ≤ l ∧ l ≤ hh ∧ hh ≤ m ∧ m ≤ cap then some (l.toNat, hh.toNat, m.toNat) else none
  | _, _, _ => none) := by
  cases lo <;> cases hi <;> cases mx <;> rfl
theorem bounds_ok {len cap : Nat} {lo hi mx : Option AV} {a b c : Nat} (hlo : loI lo = some (a : Int)) (hhi : hiI len mx.isSome hi = some (b : Int))
    (hmx : mxI cap mx = some (c : Int)) (hab : a ≤ b ∧ b ≤ c ∧ c ≤ cap) : boundsA len cap lo hi mx = some (a, b, c) := by
  rw [bounds_eq, hlo, hhi, hmx]
  dsimp only
  rw [if_pos (by omega)]; simp

theorem SL.part {h : Heap} {sz n : Nat} {v : AV} {cs : List AV} (H : SL h sz v n cs) {lo hi mx : Option AV} {a b c : Nat} (hlo : loI lo = some (a : Int))
    (hhi : hiI n mx.isSome hi = some (b : Int)) (hmx : ∀ m, mx = some m → intA m = some (c : Int)) (hab : a ≤ b ∧ b ≤ n ∧ (mx.isSome = true → b ≤ c ∧ c ≤ n)) (hne : a < b ∨ a = 0 ∨ mx.isSome = true) :
    ∃ v', sliceA h sz v lo hi mx = some v' ∧ SL h sz v' (b - a) (cut cs (a * sz) ((b - a) * sz)) := by
  obtain ⟨hl, hlt, ⟨rfl, rfl⟩ | ⟨i, o, cp, vs, wr, u, rfl, hg, hle, hc, hcap⟩⟩ := H
  · have ea : a = 0 := by omega
    have eb : b = 0 := by omega
    subst ea eb
    have : cs = [] := List.eq_nil_of_length_eq_zero (by omega)
    subst this
    refine ⟨.nilslice, ?_, by simp [cut], by omega, .inl ⟨rfl, rfl⟩⟩
    cases mx with
    | none => simp only [sliceA]; rw [bounds_ok (a := 0) (b := 0) (c := 0) hlo hhi rfl (by omega)]
    | some m =>
      have hc0 : c = 0 := by have := hab.2.2 rfl; omega
      subst hc0
      simp only [sliceA]; rw [bounds_ok (a := 0) (b := 0) (c := 0) hlo hhi (hmx _ rfl) (by omega)]
  · have hb : b * sz ≤ n * sz := Nat.mul_le_mul_right _ hab.2.1
    have hba : (b - a) * sz = b * sz - a * sz := Nat.sub_mul _ _ _
    have hab' : a * sz ≤ b * sz := Nat.mul_le_mul_right _ hab.1
    have hlen : (cut cs (a * sz) ((b - a) * sz)).length = (b - a) * sz := by
      simp only [cut, List.length_take, List.length_drop, hl]; omega
    have hcut : cut vs (o + a * sz) ((b - a) * sz) = cut cs (a * sz) ((b - a) * sz) := by
      subst hc
      simp only [cut, List.drop_take, List.drop_drop, List.take_take]
      rw [Nat.min_eq_left (by omega)]
    have key : ∀ (cc : Nat), b ≤ cc → cc ≤ n ∨ mx = none → (match cp with | .known c0 => cc ≤ c0 | .unk _ => cc ≤ n) →
        (∀ m, mx = some m → intA m = some (cc : Int)) → (mx = none → match cp with | .known c0 => cc = c0 | .unk _ => cc = n) →
        ∃ v', sliceA h sz (.slice i o n cp) lo hi mx = some v' ∧ SL h sz v' (b - a) (cut cs (a * sz) ((b - a) * sz)) := by
      intro cc h1 h2 h3 h4 h5
      cases cp with
      | known c0 =>
        have hbd : boundsA n c0 lo hi mx = some (a, b, cc) := by
          refine bounds_ok hlo hhi ?_ ⟨hab.1, h1, h3⟩
          cases mx with
          | none => have h5 := h5 rfl; simp only at h5; subst h5; rfl
          | some m => exact h4 m rfl
        simp only [sliceA, hbd]
        by_cases e : cc = a
        · subst e
          have : b = cc := by omega
          subst this
          refine ⟨_, rfl, ?_, by omega, .inr ⟨i, o, _, vs, wr, u, by rw [if_pos rfl], hg, by simp; omega, by simp [cut], by simp⟩⟩
          simp [cut]
        · refine ⟨_, rfl, hlen, by omega, .inr ⟨i, o + a * sz, _, vs, wr, u, by rw [if_neg e], hg, by omega, hcut, by dsimp only; omega⟩⟩
      | unk l0 =>
        obtain ⟨rfl, rfl, rfl⟩ := hcap
        have hbd : boundsA n n lo hi mx = some (a, b, cc) := by
          refine bounds_ok hlo hhi ?_ ⟨hab.1, h1, h3⟩
          cases mx with
          | none => have h5 := h5 rfl; simp only at h5; subst h5; rfl
          | some m => exact h4 m rfl
        simp only [sliceA, hg]
        rw [if_pos ⟨trivial, trivial, hle⟩]
        simp only [hbd]
        cases mx with
        | none =>
          simp only [Option.isSome_none, Bool.false_eq_true, if_false]
          rw [if_pos (by simp at hne; omega)]
          exact ⟨_, rfl, hlen, by omega, .inr ⟨i, l0 * u + a * u, _, vs, true, u, rfl, hg, by omega, hcut, rfl, rfl, by rw [Nat.add_mul]⟩⟩
        | some m =>
          simp only [Option.isSome_some, if_true]
          by_cases e : cc = a
          · subst e
            have : b = cc := by omega
            subst this
            refine ⟨_, rfl, ?_, by omega, .inr ⟨i, l0 * u, _, vs, true, u, by rw [if_pos rfl], hg, by simp; omega, by simp [cut], by simp⟩⟩
            simp [cut]
          · exact ⟨_, rfl, hlen, by omega, .inr ⟨i, l0 * u + a * u, _, vs, true, u, by rw [if_neg e], hg, by omega, hcut, by dsimp only; omega⟩⟩
    cases mx with
    | some m =>
      have := hab.2.2 rfl
      refine key c this.1 (.inl this.2) ?_ hmx (by intro h; cases h)
      cases cp with
      | known c0 => exact Nat.le_trans this.2 hcap
      | unk l0 => exact this.2
    | none =>
      cases cp with
      | known c0 => exact key c0 (Nat.le_trans hab.2.1 hcap) (.inr rfl) (Nat.le_refl _) (by intro m h; cases h) (fun _ => rfl)
      | unk l0 => exact key n hab.2.1 (.inr rfl) (Nat.le_refl _) (by intro m h; cases h) (fun _ => rfl)

theorem RI.part {h : Heap} {v : AV} {l : List Int} (H : RI h v l) {lo hi mx : Option AV} {a b c : Nat} (hlo : loI lo = some (a : Int))
    (hhi : hiI l.length mx.isSome hi = some (b : Int)) (hmx : ∀ m, mx = some m → intA m = some (c : Int)) (hab : a ≤ b ∧ b ≤ l.length ∧ (mx.isSome = true → b ≤ c ∧ c ≤ l.length)) (hne : a < b ∨ a = 0 ∨ mx.isSome = true) :
    ∃ v', sliceA h 1 v lo hi mx = some v' ∧ RI h v' ((l.drop a).take (b - a)) := by
  obtain ⟨v', e, H'⟩ := SL.part H hlo hhi hmx hab hne
  refine ⟨v', e, ?_⟩
  have hl : ((l.drop a).take (b - a)).length = b - a := by simp; omega
  unfold RI
  rw [hl]
  rw [Nat.mul_one, Nat.mul_one, ints_cut] at H'
  exact H'

theorem SL.same {h h' : Heap} {sz n : Nat} {v : AV} {cs : List AV} (H : SL h sz v n cs) (hs : HSub h h') {s2 : Nat} {lo hi mx : Option AV} : sliceA h' s2 v lo hi mx = sliceA h s2 v lo hi mx := by
  obtain ⟨hl, hlt, ⟨rfl, rfl⟩ | ⟨i, o, cp, vs, wr, u, rfl, hg, _⟩⟩ := H
  · rfl
  · have e : h'.get i = h.get i := hs.get i (Heap.lt_of_get hg)
    cases cp with
    | known c => rfl
    | unk l => simp only [sliceA, e]

section
variable {h : Heap} {v : AV} {l : List Int} {k1 k2 k3 : IntKind} {a b c : Int}
theorem RI.part0_b (H : RI h v l) (hab : 0 ≤ b ∧ b ≤ l.length) : ∃ v', sliceA h 1 v none (some (.int k2 b)) none = some v' ∧ RI h v' (l.take b.toNat) := by
  have := H.part (lo := none) (hi := some (.int k2 b)) (mx := none) (a := 0) (b := b.toNat) (c := 0) rfl (by simp only [hiI, intA]; congr 1; omega) (by intro m e; cases e) (by simp; omega) (by omega)
  simpa using this
theorem RI.part_b (H : RI h v l) (hab : 0 ≤ b ∧ b ≤ l.length) : ∃ v', (∀ h', HSub h h' → sliceA h' 1 v none (some (.int k2 b)) none = some v') ∧ RI h v' (l.take b.toNat) := by
  obtain ⟨v', e, r⟩ := RI.part0_b (k2 := k2) H hab
  exact ⟨v', fun h' hs => (SL.same H hs).trans e, r⟩
end


/-! ### Appending -/
def appKB (h : Heap) (nid : Option Nat) (sz bytes i o n c m : Nat) (news : List AV) : Option ABlk → Option (AV × Heap)
  | some (.cells vs true u) => if o + n * sz ≤ vs.length then
        if n + m ≤ c then
          if o + (n + m) * sz ≤ vs.length ∧ news.all AV.one = true then some (.slice i o (n + m) (.known c), h.put i (.cells (splice vs (o + n * sz) news) true u)) else none
        else if (n + m) * bytes ≤ 2 ^ 40 ∧ h.room nid = true then some (.slice (h.nid nid) 0 (n + m) (.unk 0), h.new nid (.cells (cut vs o (n * sz) ++ news) true sz)) else none
      else none
  | some (.cells vs false _) => if o + n * sz ≤ vs.length ∧ c < n + m ∧ (n + m) * bytes ≤ 2 ^ 40 ∧ h.room nid = true then
        some (.slice (h.nid nid) 0 (n + m) (.unk 0), h.new nid (.cells (cut vs o (n * sz) ++ news) true sz)) else none
  | _ => none
theorem app_known {h nid sz bytes i o n c m news} (hm : m ≠ 0) : appendA h nid sz bytes (.slice i o n (.known c)) m news = appKB h nid sz bytes i o n c m news (h.get i) := by
  simp only [appendA, if_neg hm, appKB]
  cases h.get i with
  | none => rfl
  | some b => cases b with
    | cells vs wr u => cases wr <;> rfl
    | _ => rfl

theorem appKB_grow {h : Heap} {sz bytes i o n c m : Nat} {news vs : List AV} {u : Nat} (h1 : o + n * sz ≤ vs.length) (h2 : c < n + m) (h3 : (n + m) * bytes ≤ 1099511627776) :
    appKB h none sz bytes i o n c m news (some (.cells vs true u)) = some (.slice h.size 0 (n + m) (.unk 0), h.push (.cells (cut vs o (n * sz) ++ news) true sz)) := by
  simp only [appKB]
  rw [if_pos h1, if_neg (by omega), if_pos ⟨h3, rfl⟩]; rfl
theorem appKB_room {h : Heap} {nid : Option Nat} {sz bytes i o n c m : Nat} {news vs : List AV} {u : Nat} (h1 : o + n * sz ≤ vs.length) (h2 : n + m ≤ c) (h3 : o + (n + m) * sz ≤ vs.length) (h4 : news.all AV.one = true) :
    appKB h nid sz bytes i o n c m news (some (.cells vs true u)) = some (.slice i o (n + m) (.known c), h.put i (.cells (splice vs (o + n * sz) news) true u)) := by
  simp only [appKB]
  rw [if_pos h1, if_pos h2, if_pos ⟨h3, h4⟩]
def appUB (h : Heap) (nid : Option Nat) (sz bytes i o n l m : Nat) (news : List AV) : Option ABlk → Option (AV × Heap)
  | some (.cells vs true u) => if u = sz ∧ o = l * sz ∧ o + n * sz ≤ vs.length ∧ news.all AV.one = true ∧ (n + m) * bytes ≤ 2 ^ 40 ∧ h.room nid = true ∧ 0 < m then
        some (.slice (h.nid nid) 0 (n + m) (.unk 0), (h.put i .dead).new nid (.cells (cut vs o (n * sz) ++ news) true sz))
      else if u = sz ∧ o = l * sz ∧ o + n * sz ≤ vs.length ∧ m = 0 then some (.slice i o n (.unk l), h) else none
  | _ => none
theorem app_unk {h nid sz bytes i o n l m news} : appendA h nid sz bytes (.slice i o n (.unk l)) m news = appUB h nid sz bytes i o n l m news (h.get i) := by
  simp only [appendA, appUB]
  cases h.get i with
  | none => rfl
  | some b => cases b with
    | cells vs wr u => cases wr <;> rfl
    | _ => rfl
theorem appUB_grow {h : Heap} {sz bytes i n m : Nat} {news vs : List AV} (h1 : n * sz ≤ vs.length) (h2 : 0 < m) (h3 : (n + m) * bytes ≤ 1099511627776) (h4 : news.all AV.one = true) :
    appUB h none sz bytes i 0 n 0 m news (some (.cells vs true sz)) = some (.slice h.size 0 (n + m) (.unk 0), (h.put i .dead).push (.cells (cut vs 0 (n * sz) ++ news) true sz)) := by
  simp only [appUB]
  rw [if_pos ⟨trivial, by omega, by omega, h4, h3, rfl, h2⟩]; rfl
theorem app_nil {h : Heap} {sz bytes m : Nat} {news : List AV} (h1 : m ≠ 0) (h2 : m * bytes ≤ 1099511627776) : appendA h none sz bytes .nilslice m news = some (.slice h.size 0 m (.unk 0), h.push (.cells news true sz)) := by
  simp only [appendA, if_neg h1]
  rw [if_pos ⟨h2, rfl⟩]; rfl
theorem app_nil0 {h : Heap} {nid : Option Nat} {sz bytes : Nat} {news : List AV} : appendA h nid sz bytes .nilslice 0 news = some (.nilslice, h) := rfl
theorem appA_some {nid sz bytes h s m news} : appA nid sz bytes h s (some (m, news)) = appendA h nid sz bytes s m news := rfl

/-! ### Ranges over functions -/
section
variable {C : Ctx}
class HoldL where
  run : ALoop → Prop
def atLoop (o : Option ABlk) [K : HoldL] : Prop :=
  match o with
  | some (.loop r) => K.run r
  | _ => False
theorem atLoop_some {r : ALoop} {K : ALoop → Prop} : @atLoop (some (.loop r)) ⟨K⟩ = K r := rfl
theorem atLoop_iff {o : Option ABlk} {K : ALoop → Prop} : @atLoop o ⟨K⟩ ↔ ∃ r, o = some (.loop r) ∧ K r := by
  cases o with
  | none => simp [atLoop]
  | some b => cases b <;> simp [atLoop]
theorem beginO_normal {nt l : Nat} {body : ACode} {Post : AV → Heap → Prop} {st : St} : beginO C nt l body Post .normal st =
    @atLoop (st.h.get l) ⟨fun r => r.state = .ready ∧ wp C nt (some l) body (roundO l Post) ⟨st.t, st.h.put l (.loop { r with state := .busy }), st.m⟩⟩ := by
  simp only [beginO, true_and]; exact propext atLoop_iff.symm
theorem roundO_normal {l : Nat} {Post : AV → Heap → Prop} {st : St} : roundO l Post .normal st =
    @atLoop (st.h.get l) ⟨fun r => Post (.bool true) (st.h.put l (.loop { r with state := .ready, pend := none }))⟩ := by
  simp only [roundO, ne_eq, not_true_eq_false, false_implies, true_implies, and_true]; exact propext atLoop_iff.symm
theorem roundO_exit {l i : Nat} {Post : AV → Heap → Prop} {st : St} : roundO l Post (.exit i) st =
    @atLoop (st.h.get l) ⟨fun r => Post (.bool false) (st.h.put l (.loop { r with state := .done, pend := some (.exit i) }))⟩ := by
  simp only [roundO, ne_eq, reduceCtorEq, not_false_eq_true, false_implies, true_implies, true_and]; exact propext atLoop_iff.symm
theorem roundO_ret {l : Nat} {Post : AV → Heap → Prop} {st : St} : roundO l Post .ret st =
    @atLoop (st.h.get l) ⟨fun r => Post (.bool false) (st.h.put l (.loop { r with state := .done, pend := some .ret }))⟩ := by
  simp only [roundO, ne_eq, reduceCtorEq, not_false_eq_true, false_implies, true_implies, true_and]; exact propext atLoop_iff.symm
theorem setParams_nil {t : Nat → AV} : setParams t [] [] = t := rfl
theorem setParams_cons {t : Nat → AV} {p : Nat} {ps : List Nat} {a : AV} {xs : List AV} : setParams t (p :: ps) (a :: xs) = setParams (upd t p a) ps xs := rfl

abbrev loop0 (t : Nat → AV) (nt : Nat) (ps : List Nat) (a b : ACode) (d : Nat) : ALoop := { state := .ready, pend := none, t := t, nt := nt, params := ps, assign := a, body := b, defers := d }

theorem ACallsK.hide {g : Nat} {args : List AV} {h : Heap} {K : HoldR} (k : ∀ H, H = h → @ACallsK C g args H K) : @ACallsK C g args h K := k h rfl
theorem ACalls.hideLoop {g : Nat} {args : List AV} {h : Heap} {d : ABlk} {r : ALoop} {P : AV → Heap → Prop} (k : ∀ R, R = r → ACalls C g args ((h.push d).push (.loop R)) P) : ACalls C g args ((h.push d).push (.loop r)) P := k r rfl
theorem loop_back {R : ALoop} (h1 : R.state = .ready) (h2 : R.pend = none) : ({ state := .ready, pend := none, t := R.t, nt := R.nt, params := R.params, assign := R.assign, body := R.body, defers := R.defers } : ALoop) = R := by
  cases R; cases h1; cases h2; rfl
def atDefd (o : Option ABlk) [K : Hold] : Prop :=
  match o with
  | some (.defd true) => K.run
  | _ => False
theorem atDefd_some {p : Prop} : @atDefd (some (.defd true)) ⟨p⟩ = p := rfl
theorem retO_marks {res Post t h i m} : retO res Post .ret ⟨t, h, i :: m⟩ = @atDefd (h.get i) ⟨retO res Post .ret ⟨t, h.put i (.defd false), m⟩⟩ := by
  simp only [retO, closeMarks, atDefd]
  cases h.get i with
  | none => rfl
  | some b => cases b with
    | defd o => cases o <;> rfl
    | _ => rfl
theorem retO_marksN {res Post t h i m} : retO res Post .normal ⟨t, h, i :: m⟩ = @atDefd (h.get i) ⟨retO res Post .normal ⟨t, h.put i (.defd false), m⟩⟩ := by
  simp only [retO, closeMarks, atDefd]
  cases h.get i with
  | none => rfl
  | some b => cases b with
    | defd o => cases o <;> rfl
    | _ => rfl

theorem wpRange_none {nt g : Nat} {f c : List AV} {ps : List Nat} {a b : ACode} {Q : Out → St → Prop} {t : Nat → AV} {h : Heap} {m : List Nat} {D : Heap → Prop}
    (hc : ACalls C g (f ++ [.yield (h.size + 1)] ++ c) ((h.push (.defd true)).push (.loop (loop0 t nt ps a b h.size))) (fun _ h' => D h'))
    (hk : ∀ h', D h' → ∃ r, h'.get (h.size + 1) = some (.loop r) ∧ r.state ≠ .busy ∧ Q (r.pend.getD .normal) ⟨t, h'.put (h.size + 1) (.loop { r with state := .exhausted }), h.size :: m⟩) :
    wpRange C nt none (.func g f c) ps a b Q ⟨t, h, m⟩ := by
  show ACalls C g _ _ _
  exact hc.mono fun _ h' => hk h'
end
end Go.Ae
