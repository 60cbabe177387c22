/- Texts of the proof, part 9: a second reading of the lowered code, proved sound, and what the functions compute. -/
import Derived.Test.YtgbhjgcoklchjaaGreatProg
import Derived.Test.YtgbhjgcoklchjaaGreatS8
namespace Go.Proofs.YtgbhjgcoklchjaaGreat
open Go.Ae
noncomputable section
def invL : List (Option Nat) := [none, none, none, some 362, some 363, some 265, some 23, some 364, some 275, some 130, some 139, some 228, some 232, some 279, some 268, some 283, some 277, some 123, some 281, some 270, some 272, some 267, some 12, some 235, some 236, some 292, some 293, some 141, some 240, some 248, some 220, some 224, some 77, some 251, some 298, some 285, some 286, some 169, some 296, some 297, some 89, some 289, some 291, some 45, some 255, some 302, some 300, some 131, some 303, some 149, some 258, some 71, some 244, some 75, some 246, some 241, some 304, some 299, some 137, some 179, some 21, some 99, some 260, some 142, some 73, some 91, some 147, some 135, some 25, some 41, some 37, some 38, some 42, some 43, some 39, some 150, some 76, some 90, some 146, some 46, some 47, some 50, some 51, some 52, some 27, some 30, some 53, some 54, some 35, some 70, some 74, some 100, some 151, some 152, some 56, some 49, some 33, some 72, some 81, some 104, some 105, some 153, some 57, some 58, some 59, some 60, some 92, some 93, some 61, some 95, some 101, some 102, none, none, none, none, none, none, none, none, none, none, none, none, none, none, none, none, some 154, none]
def lkL : List Nat := [0, 0, 0, 0, 0, 0, 0, 0, 0, 0, 0, 0, 22, 0, 0, 0, 0, 0, 0, 0, 0, 60, 0, 6, 0, 68, 0, 84, 0, 0, 85, 0, 0, 96, 0, 88, 0, 70, 71, 74, 0, 69, 72, 73, 0, 43, 79, 80, 0, 95, 81, 82, 83, 86, 87, 0, 94, 102, 103, 104, 105, 108, 0, 0, 0, 0, 0, 0, 0, 0, 89, 51, 97, 64, 90, 53, 76, 32, 0, 0, 0, 98, 0, 0, 0, 0, 0, 0, 0, 40, 77, 65, 106, 107, 0, 109, 0, 0, 0, 61, 91, 110, 111, 0, 99, 100, 0, 0, 0, 0, 0, 0, 0, 0, 0, 0, 0, 0, 0, 0, 0, 0, 0, 17, 0, 0, 0, 0, 0, 0, 9, 47, 0, 0, 0, 67, 0, 58, 0, 10, 0, 27, 63, 0, 0, 0, 78, 66, 0, 49, 75, 92, 93, 101, 128, 0, 0, 0, 0, 0, 0, 0, 0, 0, 0, 0, 0, 0, 0, 37, 0, 0, 0, 0, 0, 0, 0, 0, 0, 59, 0, 0, 0, 0, 0, 0, 0, 0, 0, 0, 0, 0, 0, 0, 0, 0, 0, 0, 0, 0, 0, 0, 0, 0, 0, 0, 0, 0, 0, 0, 0, 0, 0, 0, 0, 0, 0, 0, 0, 0, 30, 0, 0, 0, 31, 0, 0, 0, 11, 0, 0, 0, 12, 0, 0, 23, 24, 0, 0, 0, 28, 55, 0, 0, 52, 0, 54, 0, 29, 0, 0, 33, 0, 0, 0, 44, 0, 0, 50, 0, 62, 0, 0, 0, 0, 5, 0, 21, 14, 0, 19, 0, 20, 0, 0, 8, 0, 16, 0, 13, 0, 18, 0, 15, 0, 35, 36, 0, 0, 41, 0, 42, 25, 26, 0, 0, 38, 39, 34, 57, 46, 0, 45, 48, 56, 0, 0, 0, 0, 0, 0, 0, 0, 0, 0, 0, 0, 0, 0, 0, 0, 0, 0, 0, 0, 0, 0, 0, 0, 0, 0, 0, 0, 0, 0, 0, 0, 0, 0, 0, 0, 0, 0, 0, 0, 0, 0, 0, 0, 0, 0, 0, 0, 0, 0, 0, 0, 0, 0, 0, 0, 0, 3, 4, 7]
theorem invOk : ((List.range invL.length).all fun f => match invL.getD f none with | some g => lkL.getD g 0 == f | none => true) = true := by decide +kernel
noncomputable def ctx : Ctx where
 P := Tryz.prog
 lk := fun g => lkL.getD g 0
 inv := fun f => invL.getD f none
 hinv := by
  intro f g h
  have hlt : f < invL.length := by
   rcases Nat.lt_or_ge f invL.length with x | x
   ·exact x
   ·rw [List.getD_eq_getElem?_getD, List.getElem?_eq_none x] at h; cases h
  have := List.all_eq_true.1 invOk f (by simpa using hlt)
  rw [h] at this
  simpa using this
 mixed := by kernel_rfl
theorem L363 : ctx.body 363 = some B363 := by kernel_rfl
theorem L265 : ctx.body 265 = some B265 := by kernel_rfl
theorem L23 : ctx.body 23 = some B23 := by kernel_rfl
theorem L364 : ctx.body 364 = some B364 := by kernel_rfl
theorem L275 : ctx.body 275 = some B275 := by kernel_rfl
theorem L130 : ctx.body 130 = some B130 := by kernel_rfl
theorem L139 : ctx.body 139 = some B139 := by kernel_rfl
theorem L232 : ctx.body 232 = some B232 := by kernel_rfl
theorem L279 : ctx.body 279 = some B279 := by kernel_rfl
theorem L268 : ctx.body 268 = some B268 := by kernel_rfl
theorem L283 : ctx.body 283 = some B283 := by kernel_rfl
theorem L277 : ctx.body 277 = some B277 := by kernel_rfl
theorem L123 : ctx.body 123 = some B123 := by kernel_rfl
theorem L281 : ctx.body 281 = some B281 := by kernel_rfl
theorem L270 : ctx.body 270 = some B270 := by kernel_rfl
theorem L272 : ctx.body 272 = some B272 := by kernel_rfl
theorem L267 : ctx.body 267 = some B267 := by kernel_rfl
theorem L12 : ctx.body 12 = some B12 := by kernel_rfl
theorem L235 : ctx.body 235 = some B235 := by kernel_rfl
theorem L236 : ctx.body 236 = some B236 := by kernel_rfl
theorem L292 : ctx.body 292 = some B292 := by kernel_rfl
theorem L293 : ctx.body 293 = some B293 := by kernel_rfl
theorem L141 : ctx.body 141 = some B141 := by kernel_rfl
theorem L248 : ctx.body 248 = some B248 := by kernel_rfl
theorem L220 : ctx.body 220 = some B220 := by kernel_rfl
theorem L224 : ctx.body 224 = some B224 := by kernel_rfl
theorem L77 : ctx.body 77 = some B77 := by kernel_rfl
theorem L251 : ctx.body 251 = some B251 := by kernel_rfl
theorem L298 : ctx.body 298 = some B298 := by kernel_rfl
theorem L285 : ctx.body 285 = some B285 := by kernel_rfl
theorem L286 : ctx.body 286 = some B286 := by kernel_rfl
theorem L169 : ctx.body 169 = some B169 := by kernel_rfl
theorem L296 : ctx.body 296 = some B296 := by kernel_rfl
theorem L297 : ctx.body 297 = some B297 := by kernel_rfl
theorem L89 : ctx.body 89 = some B89 := by kernel_rfl
theorem L289 : ctx.body 289 = some B289 := by kernel_rfl
theorem L291 : ctx.body 291 = some B291 := by kernel_rfl
theorem L45 : ctx.body 45 = some B45 := by kernel_rfl
theorem L255 : ctx.body 255 = some B255 := by kernel_rfl
theorem L302 : ctx.body 302 = some B302 := by kernel_rfl
theorem L300 : ctx.body 300 = some B300 := by kernel_rfl
theorem L131 : ctx.body 131 = some B131 := by kernel_rfl
theorem L303 : ctx.body 303 = some B303 := by kernel_rfl
theorem L149 : ctx.body 149 = some B149 := by kernel_rfl
theorem L258 : ctx.body 258 = some B258 := by kernel_rfl
theorem L71 : ctx.body 71 = some B71 := by kernel_rfl
theorem L244 : ctx.body 244 = some B244 := by kernel_rfl
theorem L75 : ctx.body 75 = some B75 := by kernel_rfl
theorem L246 : ctx.body 246 = some B246 := by kernel_rfl
theorem L241 : ctx.body 241 = some B241 := by kernel_rfl
theorem L304 : ctx.body 304 = some B304 := by kernel_rfl
theorem L299 : ctx.body 299 = some B299 := by kernel_rfl
theorem L137 : ctx.body 137 = some B137 := by kernel_rfl
theorem L179 : ctx.body 179 = some B179 := by kernel_rfl
theorem L21 : ctx.body 21 = some B21 := by kernel_rfl
theorem L99 : ctx.body 99 = some B99 := by kernel_rfl
theorem L260 : ctx.body 260 = some B260 := by kernel_rfl
theorem L142 : ctx.body 142 = some B142 := by kernel_rfl
theorem L73 : ctx.body 73 = some B73 := by kernel_rfl
theorem L91 : ctx.body 91 = some B91 := by kernel_rfl
theorem L147 : ctx.body 147 = some B147 := by kernel_rfl
theorem L135 : ctx.body 135 = some B135 := by kernel_rfl
theorem L25 : ctx.body 25 = some B25 := by kernel_rfl
theorem L41 : ctx.body 41 = some B41 := by kernel_rfl
theorem L37 : ctx.body 37 = some B37 := by kernel_rfl
theorem L38 : ctx.body 38 = some B38 := by kernel_rfl
theorem L42 : ctx.body 42 = some B42 := by kernel_rfl
theorem L43 : ctx.body 43 = some B43 := by kernel_rfl
theorem L39 : ctx.body 39 = some B39 := by kernel_rfl
theorem L150 : ctx.body 150 = some B150 := by kernel_rfl
theorem L76 : ctx.body 76 = some B76 := by kernel_rfl
theorem L90 : ctx.body 90 = some B90 := by kernel_rfl
theorem L146 : ctx.body 146 = some B146 := by kernel_rfl
theorem L46 : ctx.body 46 = some B46 := by kernel_rfl
theorem L47 : ctx.body 47 = some B47 := by kernel_rfl
theorem L50 : ctx.body 50 = some B50 := by kernel_rfl
theorem L51 : ctx.body 51 = some B51 := by kernel_rfl
theorem L52 : ctx.body 52 = some B52 := by kernel_rfl
theorem L27 : ctx.body 27 = some B27 := by kernel_rfl
theorem L30 : ctx.body 30 = some B30 := by kernel_rfl
theorem L53 : ctx.body 53 = some B53 := by kernel_rfl
theorem L54 : ctx.body 54 = some B54 := by kernel_rfl
theorem L35 : ctx.body 35 = some B35 := by kernel_rfl
theorem L70 : ctx.body 70 = some B70 := by kernel_rfl
theorem L74 : ctx.body 74 = some B74 := by kernel_rfl
theorem L100 : ctx.body 100 = some B100 := by kernel_rfl
theorem L151 : ctx.body 151 = some B151 := by kernel_rfl
theorem L152 : ctx.body 152 = some B152 := by kernel_rfl
theorem L56 : ctx.body 56 = some B56 := by kernel_rfl
theorem L49 : ctx.body 49 = some B49 := by kernel_rfl
theorem L33 : ctx.body 33 = some B33 := by kernel_rfl
theorem L72 : ctx.body 72 = some B72 := by kernel_rfl
theorem L81 : ctx.body 81 = some B81 := by kernel_rfl
theorem L104 : ctx.body 104 = some B104 := by kernel_rfl
theorem L105 : ctx.body 105 = some B105 := by kernel_rfl
theorem L153 : ctx.body 153 = some B153 := by kernel_rfl
theorem L57 : ctx.body 57 = some B57 := by kernel_rfl
theorem L58 : ctx.body 58 = some B58 := by kernel_rfl
theorem L59 : ctx.body 59 = some B59 := by kernel_rfl
theorem L60 : ctx.body 60 = some B60 := by kernel_rfl
theorem L92 : ctx.body 92 = some B92 := by kernel_rfl
theorem L93 : ctx.body 93 = some B93 := by kernel_rfl
theorem L61 : ctx.body 61 = some B61 := by kernel_rfl
theorem L95 : ctx.body 95 = some B95 := by kernel_rfl
theorem L101 : ctx.body 101 = some B101 := by kernel_rfl
theorem L102 : ctx.body 102 = some B102 := by kernel_rfl
def all : List Nat := [363, 265, 23, 364, 275, 130, 139, 232, 279, 268, 283, 277, 123, 281, 270, 272, 267, 12, 235, 236, 292, 293, 141, 248, 220, 224, 77, 251, 298, 285, 286, 169, 296, 297, 89, 289, 291, 45, 255, 302, 300, 131, 303, 149, 258, 71, 244, 75, 246, 241, 304, 299, 137, 179, 21, 99, 260, 142, 73, 91, 147, 135, 25, 41, 37, 38, 42, 43, 39, 150, 76, 90, 146, 46, 47, 50, 51, 52, 27, 30, 53, 54, 35, 70, 74, 100, 151, 152, 56, 49, 33, 72, 81, 104, 105, 153, 57, 58, 59, 60, 92, 93, 61, 95, 101, 102]
theorem has : Has ctx all := by
 unfold Has all
 simp only [List.forall_mem_cons]
 refine ⟨?_, ?_, ?_, ?_, ?_, ?_, ?_, ?_, ?_, ?_, ?_, ?_, ?_, ?_, ?_, ?_, ?_, ?_, ?_, ?_, ?_, ?_, ?_, ?_, ?_, ?_, ?_, ?_, ?_, ?_, ?_, ?_, ?_, ?_, ?_, ?_, ?_, ?_, ?_, ?_, ?_, ?_, ?_, ?_, ?_, ?_, ?_, ?_, ?_, ?_, ?_, ?_, ?_, ?_, ?_, ?_, ?_, ?_, ?_, ?_, ?_, ?_, ?_, ?_, ?_, ?_, ?_, ?_, ?_, ?_, ?_, ?_, ?_, ?_, ?_, ?_, ?_, ?_, ?_, ?_, ?_, ?_, ?_, ?_, ?_, ?_, ?_, ?_, ?_, ?_, ?_, ?_, ?_, ?_, ?_, ?_, ?_, ?_, ?_, ?_, ?_, ?_, ?_, ?_, ?_, ?_, by simp⟩
 ·intro b h; rw [tab363] at h; cases h; exact L363
 ·intro b h; rw [tab265] at h; cases h; exact L265
 ·intro b h; rw [tab23] at h; cases h; exact L23
 ·intro b h; rw [tab364] at h; cases h; exact L364
 ·intro b h; rw [tab275] at h; cases h; exact L275
 ·intro b h; rw [tab130] at h; cases h; exact L130
 ·intro b h; rw [tab139] at h; cases h; exact L139
 ·intro b h; rw [tab232] at h; cases h; exact L232
 ·intro b h; rw [tab279] at h; cases h; exact L279
 ·intro b h; rw [tab268] at h; cases h; exact L268
 ·intro b h; rw [tab283] at h; cases h; exact L283
 ·intro b h; rw [tab277] at h; cases h; exact L277
 ·intro b h; rw [tab123] at h; cases h; exact L123
 ·intro b h; rw [tab281] at h; cases h; exact L281
 ·intro b h; rw [tab270] at h; cases h; exact L270
 ·intro b h; rw [tab272] at h; cases h; exact L272
 ·intro b h; rw [tab267] at h; cases h; exact L267
 ·intro b h; rw [tab12] at h; cases h; exact L12
 ·intro b h; rw [tab235] at h; cases h; exact L235
 ·intro b h; rw [tab236] at h; cases h; exact L236
 ·intro b h; rw [tab292] at h; cases h; exact L292
 ·intro b h; rw [tab293] at h; cases h; exact L293
 ·intro b h; rw [tab141] at h; cases h; exact L141
 ·intro b h; rw [tab248] at h; cases h; exact L248
 ·intro b h; rw [tab220] at h; cases h; exact L220
 ·intro b h; rw [tab224] at h; cases h; exact L224
 ·intro b h; rw [tab77] at h; cases h; exact L77
 ·intro b h; rw [tab251] at h; cases h; exact L251
 ·intro b h; rw [tab298] at h; cases h; exact L298
 ·intro b h; rw [tab285] at h; cases h; exact L285
 ·intro b h; rw [tab286] at h; cases h; exact L286
 ·intro b h; rw [tab169] at h; cases h; exact L169
 ·intro b h; rw [tab296] at h; cases h; exact L296
 ·intro b h; rw [tab297] at h; cases h; exact L297
 ·intro b h; rw [tab89] at h; cases h; exact L89
 ·intro b h; rw [tab289] at h; cases h; exact L289
 ·intro b h; rw [tab291] at h; cases h; exact L291
 ·intro b h; rw [tab45] at h; cases h; exact L45
 ·intro b h; rw [tab255] at h; cases h; exact L255
 ·intro b h; rw [tab302] at h; cases h; exact L302
 ·intro b h; rw [tab300] at h; cases h; exact L300
 ·intro b h; rw [tab131] at h; cases h; exact L131
 ·intro b h; rw [tab303] at h; cases h; exact L303
 ·intro b h; rw [tab149] at h; cases h; exact L149
 ·intro b h; rw [tab258] at h; cases h; exact L258
 ·intro b h; rw [tab71] at h; cases h; exact L71
 ·intro b h; rw [tab244] at h; cases h; exact L244
 ·intro b h; rw [tab75] at h; cases h; exact L75
 ·intro b h; rw [tab246] at h; cases h; exact L246
 ·intro b h; rw [tab241] at h; cases h; exact L241
 ·intro b h; rw [tab304] at h; cases h; exact L304
 ·intro b h; rw [tab299] at h; cases h; exact L299
 ·intro b h; rw [tab137] at h; cases h; exact L137
 ·intro b h; rw [tab179] at h; cases h; exact L179
 ·intro b h; rw [tab21] at h; cases h; exact L21
 ·intro b h; rw [tab99] at h; cases h; exact L99
 ·intro b h; rw [tab260] at h; cases h; exact L260
 ·intro b h; rw [tab142] at h; cases h; exact L142
 ·intro b h; rw [tab73] at h; cases h; exact L73
 ·intro b h; rw [tab91] at h; cases h; exact L91
 ·intro b h; rw [tab147] at h; cases h; exact L147
 ·intro b h; rw [tab135] at h; cases h; exact L135
 ·intro b h; rw [tab25] at h; cases h; exact L25
 ·intro b h; rw [tab41] at h; cases h; exact L41
 ·intro b h; rw [tab37] at h; cases h; exact L37
 ·intro b h; rw [tab38] at h; cases h; exact L38
 ·intro b h; rw [tab42] at h; cases h; exact L42
 ·intro b h; rw [tab43] at h; cases h; exact L43
 ·intro b h; rw [tab39] at h; cases h; exact L39
 ·intro b h; rw [tab150] at h; cases h; exact L150
 ·intro b h; rw [tab76] at h; cases h; exact L76
 ·intro b h; rw [tab90] at h; cases h; exact L90
 ·intro b h; rw [tab146] at h; cases h; exact L146
 ·intro b h; rw [tab46] at h; cases h; exact L46
 ·intro b h; rw [tab47] at h; cases h; exact L47
 ·intro b h; rw [tab50] at h; cases h; exact L50
 ·intro b h; rw [tab51] at h; cases h; exact L51
 ·intro b h; rw [tab52] at h; cases h; exact L52
 ·intro b h; rw [tab27] at h; cases h; exact L27
 ·intro b h; rw [tab30] at h; cases h; exact L30
 ·intro b h; rw [tab53] at h; cases h; exact L53
 ·intro b h; rw [tab54] at h; cases h; exact L54
 ·intro b h; rw [tab35] at h; cases h; exact L35
 ·intro b h; rw [tab70] at h; cases h; exact L70
 ·intro b h; rw [tab74] at h; cases h; exact L74
 ·intro b h; rw [tab100] at h; cases h; exact L100
 ·intro b h; rw [tab151] at h; cases h; exact L151
 ·intro b h; rw [tab152] at h; cases h; exact L152
 ·intro b h; rw [tab56] at h; cases h; exact L56
 ·intro b h; rw [tab49] at h; cases h; exact L49
 ·intro b h; rw [tab33] at h; cases h; exact L33
 ·intro b h; rw [tab72] at h; cases h; exact L72
 ·intro b h; rw [tab81] at h; cases h; exact L81
 ·intro b h; rw [tab104] at h; cases h; exact L104
 ·intro b h; rw [tab105] at h; cases h; exact L105
 ·intro b h; rw [tab153] at h; cases h; exact L153
 ·intro b h; rw [tab57] at h; cases h; exact L57
 ·intro b h; rw [tab58] at h; cases h; exact L58
 ·intro b h; rw [tab59] at h; cases h; exact L59
 ·intro b h; rw [tab60] at h; cases h; exact L60
 ·intro b h; rw [tab92] at h; cases h; exact L92
 ·intro b h; rw [tab93] at h; cases h; exact L93
 ·intro b h; rw [tab61] at h; cases h; exact L61
 ·intro b h; rw [tab95] at h; cases h; exact L95
 ·intro b h; rw [tab101] at h; cases h; exact L101
 ·intro b h; rw [tab102] at h; cases h; exact L102
end
end Go.Proofs.YtgbhjgcoklchjaaGreat
/- Blocks that nothing names any more are forgotten when a call comes back. -/
namespace Go.Ae
section
variable {C : Ctx}
theorem ACalls.gc0 {g : Nat} {args : List AV} {h : Heap} {P : AV → Heap → Prop} {Q : AV → Heap → Prop} (hc : ACalls C g args h P)
  (hq : ∀ r h', P r h' → (r.free ∧ HSub h h' ∧ Q r h)) : ACalls C g args h Q := by
 refine ⟨hc.1, fun keep env w R hb => ?_⟩
 refine (hc.2 keep env w R hb).mono ?_
 rintro e w' ⟨env1, r, h1, rfl, hP, R1, K1, X1, L1, _⟩
 obtain ⟨hf, hs, hQ⟩ := hq r h1 hP
 have hget : ∀ i b, h.get i = some b → h1.get i = some b := fun i b hb => (hs.get i (Heap.lt_of_get hb)).trans hb
 refine ⟨env1, r, h, rfl, hQ, ?_, K1, X1, HLe.refl _, bel_mono (fun _ hh => hh.elim) r hf⟩
 exact ⟨fun i b hi => R1.lt i b (hget i b hi), fun i b hi => R1.blk i b (hget i b hi), fun i j b c hi hj => R1.disj i j b c (hget i b hi) (hget j c hj), R.bel,
  fun i b hi => R1.kept i b (hget i b hi), R1.keepLt, fun i b hi => R1.hid i b (hget i b hi), R1.hidLt⟩
theorem free_tuple {vs : List AV} (h : ∀ v ∈ vs, v.free) : (AV.tuple vs).free := (bels_iff _ _).2 h
theorem wp_loopI {nt : Nat} {rd : Option Nat} {c : ACode} {Q : Out → St → Prop} {t : Nat → AV} {h : Heap} {m : List Nat} (I : Nat → (Nat → AV) → Heap → Prop) {j0 : Nat} (h0 : I j0 t h)
  (step : ∀ j t' h', I j t' h' → wp C nt rd c (thenO (fun st' => st'.m = m ∧ ∃ i, I i st'.t st'.h ∧ i < j) Q) ⟨t', h', m⟩) : wp C nt rd (.loop c) Q ⟨t, h, m⟩ :=
 wp_loop (I := fun j st => st.m = m ∧ I j st.t st.h) (j0 := j0) ⟨rfl, h0⟩
  (fun j u h' m' _ hI => by
   obtain ⟨hm, hI⟩ := hI
   have hm : m' = m := hm
   subst hm
   refine wp_mono ?_ (step j _ _ hI)
   intro o st' hq
   cases o with
   | normal => obtain ⟨a, i, b, d⟩ := hq; exact ⟨i, d, a, b⟩
   | exit id => exact hq
   | ret => exact hq)
  (fun hQ hw => wp_mono hQ hw)
end
end Go.Ae
/- Parts of slices, lists that grow, and ranges over functions. -/
namespace Go.Ae
/-! ### Parts of slices -/
def loI : Option AV → Option Int
 | some v => intA v
 | none => some 0
def hiI (len : Nat) (mx : Bool) : Option AV → Option Int
 | some v => intA v
 | none => if mx then none else some (len : Int)
def mxI (cap : Nat) : Option AV → Option Int
 | some v => intA v
 | none => some (cap : Int)
theorem bounds_eq (len cap : Nat) (lo hi mx : Option AV) : boundsA len cap lo hi mx = (match mxI cap mx, hiI len mx.isSome hi, loI lo with
 | some m, some hh, some l => if 0 ≤ l ∧ l ≤ hh ∧ hh ≤ m ∧ m ≤ cap then some (l.toNat, hh.toNat, m.toNat) else none
 | _, _, _ => none) := by
 cases lo <;> cases hi <;> cases mx <;> rfl
theorem bounds_ok {len cap : Nat} {lo hi mx : Option AV} {a b c : Nat} (hlo : loI lo = some (a : Int)) (hhi : hiI len mx.isSome hi = some (b : Int))
  (hmx : mxI cap mx = some (c : Int)) (hab : a ≤ b ∧ b ≤ c ∧ c ≤ cap) : boundsA len cap lo hi mx = some (a, b, c) := by
 rw [bounds_eq, hlo, hhi, hmx]
 dsimp only
 rw [if_pos (by omega)]; simp
theorem SL.part {h : Heap} {sz n : Nat} {v : AV} {cs : List AV} (H : SL h sz v n cs) {lo hi mx : Option AV} {a b c : Nat} (hlo : loI lo = some (a : Int))
  (hhi : hiI n mx.isSome hi = some (b : Int)) (hmx : ∀ m, mx = some m → intA m = some (c : Int)) (hab : a ≤ b ∧ b ≤ n ∧ (mx.isSome = true → b ≤ c ∧ c ≤ n)) (hne : a < b ∨ a = 0 ∨ mx.isSome = true) :
  ∃ v', sliceA h sz v lo hi mx = some v' ∧ SL h sz v' (b - a) (cut cs (a * sz) ((b - a) * sz)) := by
 obtain ⟨hl, hlt, ⟨rfl, rfl⟩ | ⟨i, o, cp, vs, wr, u, rfl, hg, hle, hc, hcap⟩⟩ := H
 ·have ea : a = 0 := by omega
  have eb : b = 0 := by omega
  subst ea eb
  have : cs = [] := List.eq_nil_of_length_eq_zero (by omega)
  subst this
  refine ⟨.nilslice, ?_, by simp [cut], by omega, .inl ⟨rfl, rfl⟩⟩
  cases mx with
  | none => simp only [sliceA]; rw [bounds_ok (a := 0) (b := 0) (c := 0) hlo hhi rfl (by omega)]
  | some m =>
   have hc0 : c = 0 := by have := hab.2.2 rfl; omega
   subst hc0
   simp only [sliceA]; rw [bounds_ok (a := 0) (b := 0) (c := 0) hlo hhi (hmx _ rfl) (by omega)]
 ·have hb : b * sz ≤ n * sz := Nat.mul_le_mul_right _ hab.2.1
  have hba : (b - a) * sz = b * sz - a * sz := Nat.sub_mul _ _ _
  have hab' : a * sz ≤ b * sz := Nat.mul_le_mul_right _ hab.1
  have hlen : (cut cs (a * sz) ((b - a) * sz)).length = (b - a) * sz := by
   simp only [cut, List.length_take, List.length_drop, hl]; omega
  have hcut : cut vs (o + a * sz) ((b - a) * sz) = cut cs (a * sz) ((b - a) * sz) := by
   subst hc
   simp only [cut, List.drop_take, List.drop_drop, List.take_take]
   rw [Nat.min_eq_left (by omega)]
  have key : ∀ (cc : Nat), b ≤ cc → cc ≤ n ∨ mx = none → (match cp with | .known c0 => cc ≤ c0 | .unk _ => cc ≤ n) →
    (∀ m, mx = some m → intA m = some (cc : Int)) → (mx = none → match cp with | .known c0 => cc = c0 | .unk _ => cc = n) →
    ∃ v', sliceA h sz (.slice i o n cp) lo hi mx = some v' ∧ SL h sz v' (b - a) (cut cs (a * sz) ((b - a) * sz)) := by
   intro cc h1 h2 h3 h4 h5
   cases cp with
   | known c0 =>
    have hbd : boundsA n c0 lo hi mx = some (a, b, cc) := by
     refine bounds_ok hlo hhi ?_ ⟨hab.1, h1, h3⟩
     cases mx with
     | none => have h5 := h5 rfl; simp only at h5; subst h5; rfl
     | some m => exact h4 m rfl
    simp only [sliceA, hbd]
    by_cases e : cc = a
    ·subst e
     have : b = cc := by omega
     subst this
     refine ⟨_, rfl, ?_, by omega, .inr ⟨i, o, _, vs, wr, u, by rw [if_pos rfl], hg, by simp; omega, by simp [cut], by simp⟩⟩
     simp [cut]
    ·refine ⟨_, rfl, hlen, by omega, .inr ⟨i, o + a * sz, _, vs, wr, u, by rw [if_neg e], hg, by omega, hcut, by dsimp only; omega⟩⟩
   | unk l0 =>
    obtain ⟨rfl, rfl, rfl⟩ := hcap
    have hbd : boundsA n n lo hi mx = some (a, b, cc) := by
     refine bounds_ok hlo hhi ?_ ⟨hab.1, h1, h3⟩
     cases mx with
     | none => have h5 := h5 rfl; simp only at h5; subst h5; rfl
     | some m => exact h4 m rfl
    simp only [sliceA, hg]
    rw [if_pos ⟨trivial, trivial, hle⟩]
    simp only [hbd]
    cases mx with
    | none =>
     simp only [Option.isSome_none, Bool.false_eq_true, if_false]
     rw [if_pos (by simp at hne; omega)]
     exact ⟨_, rfl, hlen, by omega, .inr ⟨i, l0 * u + a * u, _, vs, true, u, rfl, hg, by omega, hcut, rfl, rfl, by rw [Nat.add_mul]⟩⟩
    | some m =>
     simp only [Option.isSome_some, if_true]
     by_cases e : cc = a
     ·subst e
      have : b = cc := by omega
      subst this
      refine ⟨_, rfl, ?_, by omega, .inr ⟨i, l0 * u, _, vs, true, u, by rw [if_pos rfl], hg, by simp; omega, by simp [cut], by simp⟩⟩
      simp [cut]
     ·exact ⟨_, rfl, hlen, by omega, .inr ⟨i, l0 * u + a * u, _, vs, true, u, by rw [if_neg e], hg, by omega, hcut, by dsimp only; omega⟩⟩
  cases mx with
  | some m =>
   have := hab.2.2 rfl
   refine key c this.1 (.inl this.2) ?_ hmx (by intro h; cases h)
   cases cp with
   | known c0 => exact Nat.le_trans this.2 hcap
   | unk l0 => exact this.2
  | none =>
   cases cp with
   | known c0 => exact key c0 (Nat.le_trans hab.2.1 hcap) (.inr rfl) (Nat.le_refl _) (by intro m h; cases h) (fun _ => rfl)
   | unk l0 => exact key n hab.2.1 (.inr rfl) (Nat.le_refl _) (by intro m h; cases h) (fun _ => rfl)
theorem RI.part {h : Heap} {v : AV} {l : List Int} (H : RI h v l) {lo hi mx : Option AV} {a b c : Nat} (hlo : loI lo = some (a : Int))
  (hhi : hiI l.length mx.isSome hi = some (b : Int)) (hmx : ∀ m, mx = some m → intA m = some (c : Int)) (hab : a ≤ b ∧ b ≤ l.length ∧ (mx.isSome = true → b ≤ c ∧ c ≤ l.length)) (hne : a < b ∨ a = 0 ∨ mx.isSome = true) :
  ∃ v', sliceA h 1 v lo hi mx = some v' ∧ RI h v' ((l.drop a).take (b - a)) := by
 obtain ⟨v', e, H'⟩ := SL.part H hlo hhi hmx hab hne
 refine ⟨v', e, ?_⟩
 have hl : ((l.drop a).take (b - a)).length = b - a := by simp; omega
 unfold RI
 rw [hl]
 rw [Nat.mul_one, Nat.mul_one, ints_cut] at H'
 exact H'
theorem SL.same {h h' : Heap} {sz n : Nat} {v : AV} {cs : List AV} (H : SL h sz v n cs) (hs : HSub h h') {s2 : Nat} {lo hi mx : Option AV} : sliceA h' s2 v lo hi mx = sliceA h s2 v lo hi mx := by
 obtain ⟨hl, hlt, ⟨rfl, rfl⟩ | ⟨i, o, cp, vs, wr, u, rfl, hg, _⟩⟩ := H
 ·rfl
 ·have e : h'.get i = h.get i := hs.get i (Heap.lt_of_get hg)
  cases cp with
  | known c => rfl
  | unk l => simp only [sliceA, e]
section
variable {h : Heap} {v : AV} {l : List Int} {k1 k2 k3 : IntKind} {a b c : Int}
theorem RI.part0_b (H : RI h v l) (hab : 0 ≤ b ∧ b ≤ l.length) : ∃ v', sliceA h 1 v none (some (.int k2 b)) none = some v' ∧ RI h v' (l.take b.toNat) := by
 have := H.part (lo := none) (hi := some (.int k2 b)) (mx := none) (a := 0) (b := b.toNat) (c := 0) rfl (by simp only [hiI, intA]; congr 1; omega) (by intro m e; cases e) (by simp; omega) (by omega)
 simpa using this
theorem RI.part_b (H : RI h v l) (hab : 0 ≤ b ∧ b ≤ l.length) : ∃ v', (∀ h', HSub h h' → sliceA h' 1 v none (some (.int k2 b)) none = some v') ∧ RI h v' (l.take b.toNat) := by
 obtain ⟨v', e, r⟩ := RI.part0_b (k2 := k2) H hab
 exact ⟨v', fun h' hs => (SL.same H hs).trans e, r⟩
end
/-! ### Appending -/
def appKB (h : Heap) (nid : Option Nat) (sz bytes i o n c m : Nat) (news : List AV) : Option ABlk → Option (AV × Heap)
 | some (.cells vs true u) => if o + n * sz ≤ vs.length then
    if n + m ≤ c then
     if o + (n + m) * sz ≤ vs.length ∧ news.all AV.one = true then some (.slice i o (n + m) (.known c), h.put i (.cells (splice vs (o + n * sz) news) true u)) else none
    else if (n + m) * bytes ≤ 2 ^ 40 ∧ h.room nid = true then some (.slice (h.nid nid) 0 (n + m) (.unk 0), h.new nid (.cells (cut vs o (n * sz) ++ news) true sz)) else none
   else none
 | some (.cells vs false _) => if o + n * sz ≤ vs.length ∧ c < n + m ∧ (n + m) * bytes ≤ 2 ^ 40 ∧ h.room nid = true then
    some (.slice (h.nid nid) 0 (n + m) (.unk 0), h.new nid (.cells (cut vs o (n * sz) ++ news) true sz)) else none
 | _ => none
theorem app_known {h nid sz bytes i o n c m news} (hm : m ≠ 0) : appendA h nid sz bytes (.slice i o n (.known c)) m news = appKB h nid sz bytes i o n c m news (h.get i) := by
 simp only [appendA, if_neg hm, appKB]
 cases h.get i with
 | none => rfl
 | some b => cases b with
  | cells vs wr u => cases wr <;> rfl
  | _ => rfl
theorem appKB_grow {h : Heap} {sz bytes i o n c m : Nat} {news vs : List AV} {u : Nat} (h1 : o + n * sz ≤ vs.length) (h2 : c < n + m) (h3 : (n + m) * bytes ≤ 1099511627776) :
  appKB h none sz bytes i o n c m news (some (.cells vs true u)) = some (.slice h.size 0 (n + m) (.unk 0), h.push (.cells (cut vs o (n * sz) ++ news) true sz)) := by
 simp only [appKB]
 rw [if_pos h1, if_neg (by omega), if_pos ⟨h3, rfl⟩]; rfl
theorem appKB_room {h : Heap} {nid : Option Nat} {sz bytes i o n c m : Nat} {news vs : List AV} {u : Nat} (h1 : o + n * sz ≤ vs.length) (h2 : n + m ≤ c) (h3 : o + (n + m) * sz ≤ vs.length) (h4 : news.all AV.one = true) :
  appKB h nid sz bytes i o n c m news (some (.cells vs true u)) = some (.slice i o (n + m) (.known c), h.put i (.cells (splice vs (o + n * sz) news) true u)) := by
 simp only [appKB]
 rw [if_pos h1, if_pos h2, if_pos ⟨h3, h4⟩]
def appUB (h : Heap) (nid : Option Nat) (sz bytes i o n l m : Nat) (news : List AV) : Option ABlk → Option (AV × Heap)
 | some (.cells vs true u) => if u = sz ∧ o = l * sz ∧ o + n * sz ≤ vs.length ∧ news.all AV.one = true ∧ (n + m) * bytes ≤ 2 ^ 40 ∧ h.room nid = true ∧ 0 < m then
    some (.slice (h.nid nid) 0 (n + m) (.unk 0), (h.put i .dead).new nid (.cells (cut vs o (n * sz) ++ news) true sz))
   else if u = sz ∧ o = l * sz ∧ o + n * sz ≤ vs.length ∧ m = 0 then some (.slice i o n (.unk l), h) else none
 | _ => none
theorem app_unk {h nid sz bytes i o n l m news} : appendA h nid sz bytes (.slice i o n (.unk l)) m news = appUB h nid sz bytes i o n l m news (h.get i) := by
 simp only [appendA, appUB]
 cases h.get i with
 | none => rfl
 | some b => cases b with
  | cells vs wr u => cases wr <;> rfl
  | _ => rfl
theorem appUB_grow {h : Heap} {sz bytes i n m : Nat} {news vs : List AV} (h1 : n * sz ≤ vs.length) (h2 : 0 < m) (h3 : (n + m) * bytes ≤ 1099511627776) (h4 : news.all AV.one = true) :
  appUB h none sz bytes i 0 n 0 m news (some (.cells vs true sz)) = some (.slice h.size 0 (n + m) (.unk 0), (h.put i .dead).push (.cells (cut vs 0 (n * sz) ++ news) true sz)) := by
 simp only [appUB]
 rw [if_pos ⟨trivial, by omega, by omega, h4, h3, rfl, h2⟩]; rfl
theorem app_nil {h : Heap} {sz bytes m : Nat} {news : List AV} (h1 : m ≠ 0) (h2 : m * bytes ≤ 1099511627776) : appendA h none sz bytes .nilslice m news = some (.slice h.size 0 m (.unk 0), h.push (.cells news true sz)) := by
 simp only [appendA, if_neg h1]
 rw [if_pos ⟨h2, rfl⟩]; rfl
theorem app_nil0 {h : Heap} {nid : Option Nat} {sz bytes : Nat} {news : List AV} : appendA h nid sz bytes .nilslice 0 news = some (.nilslice, h) := rfl
theorem appA_some {nid sz bytes h s m news} : appA nid sz bytes h s (some (m, news)) = appendA h nid sz bytes s m news := rfl
/-! ### Ranges over functions -/
section
variable {C : Ctx}
class HoldL where
 run : ALoop → Prop
def atLoop (o : Option ABlk) [K : HoldL] : Prop :=
 match o with
 | some (.loop r) => K.run r
 | _ => False
theorem atLoop_some {r : ALoop} {K : ALoop → Prop} : @atLoop (some (.loop r)) ⟨K⟩ = K r := rfl
theorem atLoop_iff {o : Option ABlk} {K : ALoop → Prop} : @atLoop o ⟨K⟩ ↔ ∃ r, o = some (.loop r) ∧ K r := by
 cases o with
 | none => simp [atLoop]
 | some b => cases b <;> simp [atLoop]
theorem beginO_normal {nt l : Nat} {body : ACode} {Post : AV → Heap → Prop} {st : St} : beginO C nt l body Post .normal st =
  @atLoop (st.h.get l) ⟨fun r => r.state = .ready ∧ wp C nt (some l) body (roundO l Post) ⟨st.t, st.h.put l (.loop { r with state := .busy }), st.m⟩⟩ := by
 simp only [beginO, true_and]; exact propext atLoop_iff.symm
theorem roundO_normal {l : Nat} {Post : AV → Heap → Prop} {st : St} : roundO l Post .normal st =
  @atLoop (st.h.get l) ⟨fun r => Post (.bool true) (st.h.put l (.loop { r with state := .ready, pend := none }))⟩ := by
 simp only [roundO, ne_eq, not_true_eq_false, false_implies, true_implies, and_true]; exact propext atLoop_iff.symm
theorem roundO_exit {l i : Nat} {Post : AV → Heap → Prop} {st : St} : roundO l Post (.exit i) st =
  @atLoop (st.h.get l) ⟨fun r => Post (.bool false) (st.h.put l (.loop { r with state := .done, pend := some (.exit i) }))⟩ := by
 simp only [roundO, ne_eq, reduceCtorEq, not_false_eq_true, false_implies, true_implies, true_and]; exact propext atLoop_iff.symm
theorem roundO_ret {l : Nat} {Post : AV → Heap → Prop} {st : St} : roundO l Post .ret st =
  @atLoop (st.h.get l) ⟨fun r => Post (.bool false) (st.h.put l (.loop { r with state := .done, pend := some .ret }))⟩ := by
 simp only [roundO, ne_eq, reduceCtorEq, not_false_eq_true, false_implies, true_implies, true_and]; exact propext atLoop_iff.symm
theorem setParams_nil {t : Nat → AV} : setParams t [] [] = t := rfl
theorem setParams_cons {t : Nat → AV} {p : Nat} {ps : List Nat} {a : AV} {xs : List AV} : setParams t (p :: ps) (a :: xs) = setParams (upd t p a) ps xs := rfl
abbrev loop0 (t : Nat → AV) (nt : Nat) (ps : List Nat) (a b : ACode) (d : Nat) : ALoop := { state := .ready, pend := none, t := t, nt := nt, params := ps, assign := a, body := b, defers := d }
theorem ACallsK.hide {g : Nat} {args : List AV} {h : Heap} {K : HoldR} (k : ∀ H, H = h → @ACallsK C g args H K) : @ACallsK C g args h K := k h rfl
theorem ACalls.hideLoop {g : Nat} {args : List AV} {h : Heap} {d : ABlk} {r : ALoop} {P : AV → Heap → Prop} (k : ∀ R, R = r → ACalls C g args ((h.push d).push (.loop R)) P) : ACalls C g args ((h.push d).push (.loop r)) P := k r rfl
theorem loop_back {R : ALoop} (h1 : R.state = .ready) (h2 : R.pend = none) : ({ state := .ready, pend := none, t := R.t, nt := R.nt, params := R.params, assign := R.assign, body := R.body, defers := R.defers } : ALoop) = R := by
 cases R; cases h1; cases h2; rfl
def atDefd (o : Option ABlk) [K : Hold] : Prop :=
 match o with
 | some (.defd true) => K.run
 | _ => False
theorem atDefd_some {p : Prop} : @atDefd (some (.defd true)) ⟨p⟩ = p := rfl
theorem retO_marks {res Post t h i m} : retO res Post .ret ⟨t, h, i :: m⟩ = @atDefd (h.get i) ⟨retO res Post .ret ⟨t, h.put i (.defd false), m⟩⟩ := by
 simp only [retO, closeMarks, atDefd]
 cases h.get i with
 | none => rfl
 | some b => cases b with
  | defd o => cases o <;> rfl
  | _ => rfl
theorem retO_marksN {res Post t h i m} : retO res Post .normal ⟨t, h, i :: m⟩ = @atDefd (h.get i) ⟨retO res Post .normal ⟨t, h.put i (.defd false), m⟩⟩ := by
 simp only [retO, closeMarks, atDefd]
 cases h.get i with
 | none => rfl
 | some b => cases b with
  | defd o => cases o <;> rfl
  | _ => rfl
theorem wpRange_none {nt g : Nat} {f c : List AV} {ps : List Nat} {a b : ACode} {Q : Out → St → Prop} {t : Nat → AV} {h : Heap} {m : List Nat} {D : Heap → Prop}
  (hc : ACalls C g (f ++ [.yield (h.size + 1)] ++ c) ((h.push (.defd true)).push (.loop (loop0 t nt ps a b h.size))) (fun _ h' => D h'))
  (hk : ∀ h', D h' → ∃ r, h'.get (h.size + 1) = some (.loop r) ∧ r.state ≠ .busy ∧ Q (r.pend.getD .normal) ⟨t, h'.put (h.size + 1) (.loop { r with state := .exhausted }), h.size :: m⟩) :
  wpRange C nt none (.func g f c) ps a b Q ⟨t, h, m⟩ := by
 show ACalls C g _ _ _
 exact hc.mono fun _ h' => hk h'
end
end Go.Ae
