/- Texts of the proof, part 9: a second reading of the lowered code, proved sound, and what the functions compute. -/
import Derived.Test.YtcppfihmflofcaaProg
import Derived.Test.YtcppfihmflofcaaS8
namespace Go.Proofs.Ytcppfihmflofcaa
open Go.Ae
noncomputable section
def invL : List (Option Nat) := [none, none, none, some 305, some 306, some 307, some 308, some 309, some 310, some 311, some 312, some 313, some 314, some 315, some 316, some 317, some 318, some 319, some 320, some 321, some 322, some 323, some 324, some 12, some 325, some 326, some 327, some 328, some 45, some 235, some 23, some 244, some 329, some 276, some 330, some 222, some 176, some 331, some 332, some 105, some 333, some 334, some 335, some 336, some 337, some 338, some 339, some 340, some 341, some 342, some 343, some 88, some 236, some 232, some 344, some 345, some 294, some 295, some 346, some 240, some 241, some 169, some 184, some 347, some 177, some 348, some 349, some 350, some 70, some 172, some 351, some 220, some 352, some 224, some 77, some 251, some 353, some 354, some 301, some 258, some 179, some 182, some 355, some 356, some 181, some 219, some 357, some 89, some 150, some 142, some 183, some 71, some 75, some 246, some 248, some 130, some 139, some 358, some 359, some 237, some 99, some 76, some 90, some 187, some 188, some 189, some 180, some 73, some 91, some 141, some 360, some 361, some 74, some 100, some 201, some 154, some 149, some 72, some 81, some 104, some 92, some 93, some 95, some 101, some 102, none, none, none, none, none, none, none, none, none, none, none, none, none, none, none, none, none]
def lkL : List Nat := [0, 0, 0, 0, 0, 0, 0, 0, 0, 0, 0, 0, 23, 0, 0, 0, 0, 0, 0, 0, 0, 0, 0, 30, 0, 0, 0, 0, 0, 0, 0, 0, 0, 0, 0, 0, 0, 0, 0, 0, 0, 0, 0, 0, 0, 28, 0, 0, 0, 0, 0, 0, 0, 0, 0, 0, 0, 0, 0, 0, 0, 0, 0, 0, 0, 0, 0, 0, 0, 0, 68, 91, 117, 107, 112, 92, 101, 74, 0, 0, 0, 118, 0, 0, 0, 0, 0, 0, 51, 87, 102, 108, 120, 121, 0, 122, 0, 0, 0, 100, 113, 123, 124, 0, 119, 39, 0, 0, 0, 0, 0, 0, 0, 0, 0, 0, 0, 0, 0, 0, 0, 0, 0, 0, 0, 0, 0, 0, 0, 0, 95, 0, 0, 0, 0, 0, 0, 0, 0, 96, 0, 109, 89, 0, 0, 0, 0, 0, 0, 116, 88, 0, 0, 0, 115, 0, 0, 0, 0, 0, 0, 0, 0, 0, 0, 0, 0, 0, 0, 61, 0, 0, 69, 0, 0, 0, 36, 64, 0, 80, 106, 84, 81, 90, 62, 0, 0, 103, 104, 105, 0, 0, 0, 0, 0, 0, 0, 0, 0, 0, 0, 114, 0, 0, 0, 0, 0, 0, 0, 0, 0, 0, 0, 0, 0, 0, 0, 0, 0, 85, 71, 0, 35, 0, 73, 0, 0, 0, 0, 0, 0, 0, 53, 0, 0, 29, 52, 99, 0, 0, 59, 60, 0, 0, 31, 0, 93, 0, 94, 0, 0, 75, 0, 0, 0, 0, 0, 0, 79, 0, 0, 0, 0, 0, 0, 0, 0, 0, 0, 0, 0, 0, 0, 0, 0, 0, 33, 0, 0, 0, 0, 0, 0, 0, 0, 0, 0, 0, 0, 0, 0, 0, 0, 0, 56, 57, 0, 0, 0, 0, 0, 78, 0, 0, 0, 3, 4, 5, 6, 7, 8, 9, 10, 11, 12, 13, 14, 15, 16, 17, 18, 19, 20, 21, 22, 24, 25, 26, 27, 32, 34, 37, 38, 40, 41, 42, 43, 44, 45, 46, 47, 48, 49, 50, 54, 55, 58, 63, 65, 66, 67, 70, 72, 76, 77, 82, 83, 86, 97, 98, 110, 111]
theorem invOk : ((List.range invL.length).all fun f => match invL.getD f none with | some g => lkL.getD g 0 == f | none => true) = true := by decide +kernel
noncomputable def ctx : Ctx where
 P := Try.prog
 lk := fun g => lkL.getD g 0
 inv := fun f => invL.getD f none
 hinv := by
  intro f g h
  have hlt : f < invL.length := by
   rcases Nat.lt_or_ge f invL.length with x | x
   ·exact x
   ·rw [List.getD_eq_getElem?_getD, List.getElem?_eq_none x] at h; cases h
  have := List.all_eq_true.1 invOk f (by simpa using hlt)
  rw [h] at this
  simpa using this
 mixed := by kernel_rfl
theorem L307 : ctx.body 307 = some B307 := by kernel_rfl
theorem L308 : ctx.body 308 = some B308 := by kernel_rfl
theorem L312 : ctx.body 312 = some B312 := by kernel_rfl
theorem L313 : ctx.body 313 = some B313 := by kernel_rfl
theorem L315 : ctx.body 315 = some B315 := by kernel_rfl
theorem L317 : ctx.body 317 = some B317 := by kernel_rfl
theorem L319 : ctx.body 319 = some B319 := by kernel_rfl
theorem L321 : ctx.body 321 = some B321 := by kernel_rfl
theorem L325 : ctx.body 325 = some B325 := by kernel_rfl
theorem L326 : ctx.body 326 = some B326 := by kernel_rfl
theorem L327 : ctx.body 327 = some B327 := by kernel_rfl
theorem L328 : ctx.body 328 = some B328 := by kernel_rfl
theorem L45 : ctx.body 45 = some B45 := by kernel_rfl
theorem L235 : ctx.body 235 = some B235 := by kernel_rfl
theorem L23 : ctx.body 23 = some B23 := by kernel_rfl
theorem L244 : ctx.body 244 = some B244 := by kernel_rfl
theorem L329 : ctx.body 329 = some B329 := by kernel_rfl
theorem L276 : ctx.body 276 = some B276 := by kernel_rfl
theorem L330 : ctx.body 330 = some B330 := by kernel_rfl
theorem L176 : ctx.body 176 = some B176 := by kernel_rfl
theorem L331 : ctx.body 331 = some B331 := by kernel_rfl
theorem L332 : ctx.body 332 = some B332 := by kernel_rfl
theorem L105 : ctx.body 105 = some B105 := by kernel_rfl
theorem L334 : ctx.body 334 = some B334 := by kernel_rfl
theorem L338 : ctx.body 338 = some B338 := by kernel_rfl
theorem L339 : ctx.body 339 = some B339 := by kernel_rfl
theorem L340 : ctx.body 340 = some B340 := by kernel_rfl
theorem L88 : ctx.body 88 = some B88 := by kernel_rfl
theorem L236 : ctx.body 236 = some B236 := by kernel_rfl
theorem L232 : ctx.body 232 = some B232 := by kernel_rfl
theorem L344 : ctx.body 344 = some B344 := by kernel_rfl
theorem L345 : ctx.body 345 = some B345 := by kernel_rfl
theorem L294 : ctx.body 294 = some B294 := by kernel_rfl
theorem L295 : ctx.body 295 = some B295 := by kernel_rfl
theorem L346 : ctx.body 346 = some B346 := by kernel_rfl
theorem L241 : ctx.body 241 = some B241 := by kernel_rfl
theorem L169 : ctx.body 169 = some B169 := by kernel_rfl
theorem L184 : ctx.body 184 = some B184 := by kernel_rfl
theorem L347 : ctx.body 347 = some B347 := by kernel_rfl
theorem L349 : ctx.body 349 = some B349 := by kernel_rfl
theorem L350 : ctx.body 350 = some B350 := by kernel_rfl
theorem L70 : ctx.body 70 = some B70 := by kernel_rfl
theorem L172 : ctx.body 172 = some B172 := by kernel_rfl
theorem L351 : ctx.body 351 = some B351 := by kernel_rfl
theorem L220 : ctx.body 220 = some B220 := by kernel_rfl
theorem L352 : ctx.body 352 = some B352 := by kernel_rfl
theorem L224 : ctx.body 224 = some B224 := by kernel_rfl
theorem L77 : ctx.body 77 = some B77 := by kernel_rfl
theorem L251 : ctx.body 251 = some B251 := by kernel_rfl
theorem L353 : ctx.body 353 = some B353 := by kernel_rfl
theorem L354 : ctx.body 354 = some B354 := by kernel_rfl
theorem L301 : ctx.body 301 = some B301 := by kernel_rfl
theorem L258 : ctx.body 258 = some B258 := by kernel_rfl
theorem L179 : ctx.body 179 = some B179 := by kernel_rfl
theorem L182 : ctx.body 182 = some B182 := by kernel_rfl
theorem L355 : ctx.body 355 = some B355 := by kernel_rfl
theorem L356 : ctx.body 356 = some B356 := by kernel_rfl
theorem L219 : ctx.body 219 = some B219 := by kernel_rfl
theorem L357 : ctx.body 357 = some B357 := by kernel_rfl
theorem L89 : ctx.body 89 = some B89 := by kernel_rfl
theorem L150 : ctx.body 150 = some B150 := by kernel_rfl
theorem L142 : ctx.body 142 = some B142 := by kernel_rfl
theorem L183 : ctx.body 183 = some B183 := by kernel_rfl
theorem L71 : ctx.body 71 = some B71 := by kernel_rfl
theorem L75 : ctx.body 75 = some B75 := by kernel_rfl
theorem L246 : ctx.body 246 = some B246 := by kernel_rfl
theorem L248 : ctx.body 248 = some B248 := by kernel_rfl
theorem L130 : ctx.body 130 = some B130 := by kernel_rfl
theorem L139 : ctx.body 139 = some B139 := by kernel_rfl
theorem L358 : ctx.body 358 = some B358 := by kernel_rfl
theorem L359 : ctx.body 359 = some B359 := by kernel_rfl
theorem L237 : ctx.body 237 = some B237 := by kernel_rfl
theorem L99 : ctx.body 99 = some B99 := by kernel_rfl
theorem L76 : ctx.body 76 = some B76 := by kernel_rfl
theorem L90 : ctx.body 90 = some B90 := by kernel_rfl
theorem L187 : ctx.body 187 = some B187 := by kernel_rfl
theorem L188 : ctx.body 188 = some B188 := by kernel_rfl
theorem L189 : ctx.body 189 = some B189 := by kernel_rfl
theorem L180 : ctx.body 180 = some B180 := by kernel_rfl
theorem L73 : ctx.body 73 = some B73 := by kernel_rfl
theorem L91 : ctx.body 91 = some B91 := by kernel_rfl
theorem L141 : ctx.body 141 = some B141 := by kernel_rfl
theorem L360 : ctx.body 360 = some B360 := by kernel_rfl
theorem L361 : ctx.body 361 = some B361 := by kernel_rfl
theorem L74 : ctx.body 74 = some B74 := by kernel_rfl
theorem L100 : ctx.body 100 = some B100 := by kernel_rfl
theorem L201 : ctx.body 201 = some B201 := by kernel_rfl
theorem L154 : ctx.body 154 = some B154 := by kernel_rfl
theorem L149 : ctx.body 149 = some B149 := by kernel_rfl
theorem L72 : ctx.body 72 = some B72 := by kernel_rfl
theorem L81 : ctx.body 81 = some B81 := by kernel_rfl
theorem L104 : ctx.body 104 = some B104 := by kernel_rfl
theorem L92 : ctx.body 92 = some B92 := by kernel_rfl
theorem L93 : ctx.body 93 = some B93 := by kernel_rfl
theorem L95 : ctx.body 95 = some B95 := by kernel_rfl
theorem L101 : ctx.body 101 = some B101 := by kernel_rfl
theorem L102 : ctx.body 102 = some B102 := by kernel_rfl
def all : List Nat := [307, 308, 312, 313, 315, 317, 319, 321, 325, 326, 327, 328, 45, 235, 23, 244, 329, 276, 330, 176, 331, 332, 105, 334, 338, 339, 340, 88, 236, 232, 344, 345, 294, 295, 346, 241, 169, 184, 347, 349, 350, 70, 172, 351, 220, 352, 224, 77, 251, 353, 354, 301, 258, 179, 182, 355, 356, 219, 357, 89, 150, 142, 183, 71, 75, 246, 248, 130, 139, 358, 359, 237, 99, 76, 90, 187, 188, 189, 180, 73, 91, 141, 360, 361, 74, 100, 201, 154, 149, 72, 81, 104, 92, 93, 95, 101, 102]
theorem has : Has ctx all := by
 unfold Has all
 simp only [List.forall_mem_cons]
 refine ⟨?_, ?_, ?_, ?_, ?_, ?_, ?_, ?_, ?_, ?_, ?_, ?_, ?_, ?_, ?_, ?_, ?_, ?_, ?_, ?_, ?_, ?_, ?_, ?_, ?_, ?_, ?_, ?_, ?_, ?_, ?_, ?_, ?_, ?_, ?_, ?_, ?_, ?_, ?_, ?_, ?_, ?_, ?_, ?_, ?_, ?_, ?_, ?_, ?_, ?_, ?_, ?_, ?_, ?_, ?_, ?_, ?_, ?_, ?_, ?_, ?_, ?_, ?_, ?_, ?_, ?_, ?_, ?_, ?_, ?_, ?_, ?_, ?_, ?_, ?_, ?_, ?_, ?_, ?_, ?_, ?_, ?_, ?_, ?_, ?_, ?_, ?_, ?_, ?_, ?_, ?_, ?_, ?_, ?_, ?_, ?_, ?_, by simp⟩
 ·intro b h; rw [tab307] at h; cases h; exact L307
 ·intro b h; rw [tab308] at h; cases h; exact L308
 ·intro b h; rw [tab312] at h; cases h; exact L312
 ·intro b h; rw [tab313] at h; cases h; exact L313
 ·intro b h; rw [tab315] at h; cases h; exact L315
 ·intro b h; rw [tab317] at h; cases h; exact L317
 ·intro b h; rw [tab319] at h; cases h; exact L319
 ·intro b h; rw [tab321] at h; cases h; exact L321
 ·intro b h; rw [tab325] at h; cases h; exact L325
 ·intro b h; rw [tab326] at h; cases h; exact L326
 ·intro b h; rw [tab327] at h; cases h; exact L327
 ·intro b h; rw [tab328] at h; cases h; exact L328
 ·intro b h; rw [tab45] at h; cases h; exact L45
 ·intro b h; rw [tab235] at h; cases h; exact L235
 ·intro b h; rw [tab23] at h; cases h; exact L23
 ·intro b h; rw [tab244] at h; cases h; exact L244
 ·intro b h; rw [tab329] at h; cases h; exact L329
 ·intro b h; rw [tab276] at h; cases h; exact L276
 ·intro b h; rw [tab330] at h; cases h; exact L330
 ·intro b h; rw [tab176] at h; cases h; exact L176
 ·intro b h; rw [tab331] at h; cases h; exact L331
 ·intro b h; rw [tab332] at h; cases h; exact L332
 ·intro b h; rw [tab105] at h; cases h; exact L105
 ·intro b h; rw [tab334] at h; cases h; exact L334
 ·intro b h; rw [tab338] at h; cases h; exact L338
 ·intro b h; rw [tab339] at h; cases h; exact L339
 ·intro b h; rw [tab340] at h; cases h; exact L340
 ·intro b h; rw [tab88] at h; cases h; exact L88
 ·intro b h; rw [tab236] at h; cases h; exact L236
 ·intro b h; rw [tab232] at h; cases h; exact L232
 ·intro b h; rw [tab344] at h; cases h; exact L344
 ·intro b h; rw [tab345] at h; cases h; exact L345
 ·intro b h; rw [tab294] at h; cases h; exact L294
 ·intro b h; rw [tab295] at h; cases h; exact L295
 ·intro b h; rw [tab346] at h; cases h; exact L346
 ·intro b h; rw [tab241] at h; cases h; exact L241
 ·intro b h; rw [tab169] at h; cases h; exact L169
 ·intro b h; rw [tab184] at h; cases h; exact L184
 ·intro b h; rw [tab347] at h; cases h; exact L347
 ·intro b h; rw [tab349] at h; cases h; exact L349
 ·intro b h; rw [tab350] at h; cases h; exact L350
 ·intro b h; rw [tab70] at h; cases h; exact L70
 ·intro b h; rw [tab172] at h; cases h; exact L172
 ·intro b h; rw [tab351] at h; cases h; exact L351
 ·intro b h; rw [tab220] at h; cases h; exact L220
 ·intro b h; rw [tab352] at h; cases h; exact L352
 ·intro b h; rw [tab224] at h; cases h; exact L224
 ·intro b h; rw [tab77] at h; cases h; exact L77
 ·intro b h; rw [tab251] at h; cases h; exact L251
 ·intro b h; rw [tab353] at h; cases h; exact L353
 ·intro b h; rw [tab354] at h; cases h; exact L354
 ·intro b h; rw [tab301] at h; cases h; exact L301
 ·intro b h; rw [tab258] at h; cases h; exact L258
 ·intro b h; rw [tab179] at h; cases h; exact L179
 ·intro b h; rw [tab182] at h; cases h; exact L182
 ·intro b h; rw [tab355] at h; cases h; exact L355
 ·intro b h; rw [tab356] at h; cases h; exact L356
 ·intro b h; rw [tab219] at h; cases h; exact L219
 ·intro b h; rw [tab357] at h; cases h; exact L357
 ·intro b h; rw [tab89] at h; cases h; exact L89
 ·intro b h; rw [tab150] at h; cases h; exact L150
 ·intro b h; rw [tab142] at h; cases h; exact L142
 ·intro b h; rw [tab183] at h; cases h; exact L183
 ·intro b h; rw [tab71] at h; cases h; exact L71
 ·intro b h; rw [tab75] at h; cases h; exact L75
 ·intro b h; rw [tab246] at h; cases h; exact L246
 ·intro b h; rw [tab248] at h; cases h; exact L248
 ·intro b h; rw [tab130] at h; cases h; exact L130
 ·intro b h; rw [tab139] at h; cases h; exact L139
 ·intro b h; rw [tab358] at h; cases h; exact L358
 ·intro b h; rw [tab359] at h; cases h; exact L359
 ·intro b h; rw [tab237] at h; cases h; exact L237
 ·intro b h; rw [tab99] at h; cases h; exact L99
 ·intro b h; rw [tab76] at h; cases h; exact L76
 ·intro b h; rw [tab90] at h; cases h; exact L90
 ·intro b h; rw [tab187] at h; cases h; exact L187
 ·intro b h; rw [tab188] at h; cases h; exact L188
 ·intro b h; rw [tab189] at h; cases h; exact L189
 ·intro b h; rw [tab180] at h; cases h; exact L180
 ·intro b h; rw [tab73] at h; cases h; exact L73
 ·intro b h; rw [tab91] at h; cases h; exact L91
 ·intro b h; rw [tab141] at h; cases h; exact L141
 ·intro b h; rw [tab360] at h; cases h; exact L360
 ·intro b h; rw [tab361] at h; cases h; exact L361
 ·intro b h; rw [tab74] at h; cases h; exact L74
 ·intro b h; rw [tab100] at h; cases h; exact L100
 ·intro b h; rw [tab201] at h; cases h; exact L201
 ·intro b h; rw [tab154] at h; cases h; exact L154
 ·intro b h; rw [tab149] at h; cases h; exact L149
 ·intro b h; rw [tab72] at h; cases h; exact L72
 ·intro b h; rw [tab81] at h; cases h; exact L81
 ·intro b h; rw [tab104] at h; cases h; exact L104
 ·intro b h; rw [tab92] at h; cases h; exact L92
 ·intro b h; rw [tab93] at h; cases h; exact L93
 ·intro b h; rw [tab95] at h; cases h; exact L95
 ·intro b h; rw [tab101] at h; cases h; exact L101
 ·intro b h; rw [tab102] at h; cases h; exact L102
end
end Go.Proofs.Ytcppfihmflofcaa
/- Blocks that nothing names any more are forgotten when a call comes back. -/
namespace Go.Ae
section
variable {C : Ctx}
theorem ACalls.gc0 {g : Nat} {args : List AV} {h : Heap} {P : AV → Heap → Prop} {Q : AV → Heap → Prop} (hc : ACalls C g args h P)
  (hq : ∀ r h', P r h' → (r.free ∧ HSub h h' ∧ Q r h)) : ACalls C g args h Q := by
 refine ⟨hc.1, fun keep env w R hb => ?_⟩
 refine (hc.2 keep env w R hb).mono ?_
 rintro e w' ⟨env1, r, h1, rfl, hP, R1, K1, X1, L1, _⟩
 obtain ⟨hf, hs, hQ⟩ := hq r h1 hP
 have hget : ∀ i b, h.get i = some b → h1.get i = some b := fun i b hb => (hs.get i (Heap.lt_of_get hb)).trans hb
 refine ⟨env1, r, h, rfl, hQ, ?_, K1, X1, HLe.refl _, bel_mono (fun _ hh => hh.elim) r hf⟩
 exact ⟨fun i b hi => R1.lt i b (hget i b hi), fun i b hi => R1.blk i b (hget i b hi), fun i j b c hi hj => R1.disj i j b c (hget i b hi) (hget j c hj), R.bel,
  fun i b hi => R1.kept i b (hget i b hi), R1.keepLt, fun i b hi => R1.hid i b (hget i b hi), R1.hidLt⟩
theorem free_tuple {vs : List AV} (h : ∀ v ∈ vs, v.free) : (AV.tuple vs).free := (bels_iff _ _).2 h
theorem wp_loopI {nt : Nat} {rd : Option Nat} {c : ACode} {Q : Out → St → Prop} {t : Nat → AV} {h : Heap} {m : List Nat} (I : Nat → (Nat → AV) → Heap → Prop) {j0 : Nat} (h0 : I j0 t h)
  (step : ∀ j t' h', I j t' h' → wp C nt rd c (thenO (fun st' => st'.m = m ∧ ∃ i, I i st'.t st'.h ∧ i < j) Q) ⟨t', h', m⟩) : wp C nt rd (.loop c) Q ⟨t, h, m⟩ :=
 wp_loop (I := fun j st => st.m = m ∧ I j st.t st.h) (j0 := j0) ⟨rfl, h0⟩
  (fun j u h' m' _ hI => by
   obtain ⟨hm, hI⟩ := hI
   have hm : m' = m := hm
   subst hm
   refine wp_mono ?_ (step j _ _ hI)
   intro o st' hq
   cases o with
   | normal => obtain ⟨a, i, b, d⟩ := hq; exact ⟨i, d, a, b⟩
   | exit id => exact hq
   | ret => exact hq)
  (fun hQ hw => wp_mono hQ hw)
end
end Go.Ae
/- Parts of slices, lists that grow, and ranges over functions. -/
namespace Go.Ae
/-! ### Parts of slices -/
def loI : Option AV → Option Int
 | some v => intA v
 | none => some 0
def hiI (len : Nat) (mx : Bool) : Option AV → Option Int
 | some v => intA v
 | none => if mx then none else some (len : Int)
def mxI (cap : Nat) : Option AV → Option Int
 | some v => intA v
 | none => some (cap : Int)
theorem bounds_eq (len cap : Nat) (lo hi mx : Option AV) : boundsA len cap lo hi mx = (match mxI cap mx, hiI len mx.isSome hi, loI lo with
 | some m, some hh, some l => if 0 ≤ l ∧ l ≤ hh ∧ hh ≤ m ∧ m ≤ cap then some (l.toNat, hh.toNat, m.toNat) else none
 | _, _, _ => none) := by
 cases lo <;> cases hi <;> cases mx <;> rfl
theorem bounds_ok {len cap : Nat} {lo hi mx : Option AV} {a b c : Nat} (hlo : loI lo = some (a : Int)) (hhi : hiI len mx.isSome hi = some (b : Int))
  (hmx : mxI cap mx = some (c : Int)) (hab : a ≤ b ∧ b ≤ c ∧ c ≤ cap) : boundsA len cap lo hi mx = some (a, b, c) := by
 rw [bounds_eq, hlo, hhi, hmx]
 dsimp only
 rw [if_pos (by omega)]; simp
theorem SL.part {h : Heap} {sz n : Nat} {v : AV} {cs : List AV} (H : SL h sz v n cs) {lo hi mx : Option AV} {a b c : Nat} (hlo : loI lo = some (a : Int))
  (hhi : hiI n mx.isSome hi = some (b : Int)) (hmx : ∀ m, mx = some m → intA m = some (c : Int)) (hab : a ≤ b ∧ b ≤ n ∧ (mx.isSome = true → b ≤ c ∧ c ≤ n)) (hne : a < b ∨ a = 0 ∨ mx.isSome = true) :
  ∃ v', sliceA h sz v lo hi mx = some v' ∧ SL h sz v' (b - a) (cut cs (a * sz) ((b - a) * sz)) := by
 obtain ⟨hl, hlt, ⟨rfl, rfl⟩ | ⟨i, o, cp, vs, wr, u, rfl, hg, hle, hc, hcap⟩⟩ := H
 ·have ea : a = 0 := by omega
  have eb : b = 0 := by omega
  subst ea eb
  have : cs = [] := List.eq_nil_of_length_eq_zero (by omega)
  subst this
  refine ⟨.nilslice, ?_, by simp [cut], by omega, .inl ⟨rfl, rfl⟩⟩
  cases mx with
  | none => simp only [sliceA]; rw [bounds_ok (a := 0) (b := 0) (c := 0) hlo hhi rfl (by omega)]
  | some m =>
   have hc0 : c = 0 := by have := hab.2.2 rfl; omega
   subst hc0
   simp only [sliceA]; rw [bounds_ok (a := 0) (b := 0) (c := 0) hlo hhi (hmx _ rfl) (by omega)]
 ·have hb : b * sz ≤ n * sz := Nat.mul_le_mul_right _ hab.2.1
  have hba : (b - a) * sz = b * sz - a * sz := Nat.sub_mul _ _ _
  have hab' : a * sz ≤ b * sz := Nat.mul_le_mul_right _ hab.1
  have hlen : (cut cs (a * sz) ((b - a) * sz)).length = (b - a) * sz := by
   simp only [cut, List.length_take, List.length_drop, hl]; omega
  have hcut : cut vs (o + a * sz) ((b - a) * sz) = cut cs (a * sz) ((b - a) * sz) := by
   subst hc
   simp only [cut, List.drop_take, List.drop_drop, List.take_take]
   rw [Nat.min_eq_left (by omega)]
  have key : ∀ (cc : Nat), b ≤ cc → cc ≤ n ∨ mx = none → (match cp with | .known c0 => cc ≤ c0 | .unk _ => cc ≤ n) →
    (∀ m, mx = some m → intA m = some (cc : Int)) → (mx = none → match cp with | .known c0 => cc = c0 | .unk _ => cc = n) →
    ∃ v', sliceA h sz (.slice i o n cp) lo hi mx = some v' ∧ SL h sz v' (b - a) (cut cs (a * sz) ((b - a) * sz)) := by
   intro cc h1 h2 h3 h4 h5
   cases cp with
   | known c0 =>
    have hbd : boundsA n c0 lo hi mx = some (a, b, cc) := by
     refine bounds_ok hlo hhi ?_ ⟨hab.1, h1, h3⟩
     cases mx with
     | none => have h5 := h5 rfl; simp only at h5; subst h5; rfl
     | some m => exact h4 m rfl
    simp only [sliceA, hbd]
    by_cases e : cc = a
    ·subst e
     have : b = cc := by omega
     subst this
     refine ⟨_, rfl, ?_, by omega, .inr ⟨i, o, _, vs, wr, u, by rw [if_pos rfl], hg, by simp; omega, by simp [cut], by simp⟩⟩
     simp [cut]
    ·refine ⟨_, rfl, hlen, by omega, .inr ⟨i, o + a * sz, _, vs, wr, u, by rw [if_neg e], hg, by omega, hcut, by dsimp only; omega⟩⟩
   | unk l0 =>
    obtain ⟨rfl, rfl, rfl⟩ := hcap
    have hbd : boundsA n n lo hi mx = some (a, b, cc) := by
     refine bounds_ok hlo hhi ?_ ⟨hab.1, h1, h3⟩
     cases mx with
     | none => have h5 := h5 rfl; simp only at h5; subst h5; rfl
     | some m => exact h4 m rfl
    simp only [sliceA, hg]
    rw [if_pos ⟨trivial, trivial, hle⟩]
    simp only [hbd]
    cases mx with
    | none =>
     simp only [Option.isSome_none, Bool.false_eq_true, if_false]
     rw [if_pos (by simp at hne; omega)]
     exact ⟨_, rfl, hlen, by omega, .inr ⟨i, l0 * u + a * u, _, vs, true, u, rfl, hg, by omega, hcut, rfl, rfl, by rw [Nat.add_mul]⟩⟩
    | some m =>
     simp only [Option.isSome_some, if_true]
     by_cases e : cc = a
     ·subst e
      have : b = cc := by omega
      subst this
      refine ⟨_, rfl, ?_, by omega, .inr ⟨i, l0 * u, _, vs, true, u, by rw [if_pos rfl], hg, by simp; omega, by simp [cut], by simp⟩⟩
      simp [cut]
     ·exact ⟨_, rfl, hlen, by omega, .inr ⟨i, l0 * u + a * u, _, vs, true, u, by rw [if_neg e], hg, by omega, hcut, by dsimp only; omega⟩⟩
  cases mx with
  | some m =>
   have := hab.2.2 rfl
   refine key c this.1 (.inl this.2) ?_ hmx (by intro h; cases h)
   cases cp with
   | known c0 => exact Nat.le_trans this.2 hcap
   | unk l0 => exact this.2
  | none =>
   cases cp with
   | known c0 => exact key c0 (Nat.le_trans hab.2.1 hcap) (.inr rfl) (Nat.le_refl _) (by intro m h; cases h) (fun _ => rfl)
   | unk l0 => exact key n hab.2.1 (.inr rfl) (Nat.le_refl _) (by intro m h; cases h) (fun _ => rfl)
theorem RI.part {h : Heap} {v : AV} {l : List Int} (H : RI h v l) {lo hi mx : Option AV} {a b c : Nat} (hlo : loI lo = some (a : Int))
  (hhi : hiI l.length mx.isSome hi = some (b : Int)) (hmx : ∀ m, mx = some m → intA m = some (c : Int)) (hab : a ≤ b ∧ b ≤ l.length ∧ (mx.isSome = true → b ≤ c ∧ c ≤ l.length)) (hne : a < b ∨ a = 0 ∨ mx.isSome = true) :
  ∃ v', sliceA h 1 v lo hi mx = some v' ∧ RI h v' ((l.drop a).take (b - a)) := by
 obtain ⟨v', e, H'⟩ := SL.part H hlo hhi hmx hab hne
 refine ⟨v', e, ?_⟩
 have hl : ((l.drop a).take (b - a)).length = b - a := by simp; omega
 unfold RI
 rw [hl]
 rw [Nat.mul_one, Nat.mul_one, ints_cut] at H'
 exact H'
theorem SL.same {h h' : Heap} {sz n : Nat} {v : AV} {cs : List AV} (H : SL h sz v n cs) (hs : HSub h h') {s2 : Nat} {lo hi mx : Option AV} : sliceA h' s2 v lo hi mx = sliceA h s2 v lo hi mx := by
 obtain ⟨hl, hlt, ⟨rfl, rfl⟩ | ⟨i, o, cp, vs, wr, u, rfl, hg, _⟩⟩ := H
 ·rfl
 ·have e : h'.get i = h.get i := hs.get i (Heap.lt_of_get hg)
  cases cp with
  | known c => rfl
  | unk l => simp only [sliceA, e]
section
variable {h : Heap} {v : AV} {l : List Int} {k1 k2 k3 : IntKind} {a b c : Int}
theorem RI.part0_b (H : RI h v l) (hab : 0 ≤ b ∧ b ≤ l.length) : ∃ v', sliceA h 1 v none (some (.int k2 b)) none = some v' ∧ RI h v' (l.take b.toNat) := by
 have := H.part (lo := none) (hi := some (.int k2 b)) (mx := none) (a := 0) (b := b.toNat) (c := 0) rfl (by simp only [hiI, intA]; congr 1; omega) (by intro m e; cases e) (by simp; omega) (by omega)
 simpa using this
theorem RI.part_b (H : RI h v l) (hab : 0 ≤ b ∧ b ≤ l.length) : ∃ v', (∀ h', HSub h h' → sliceA h' 1 v none (some (.int k2 b)) none = some v') ∧ RI h v' (l.take b.toNat) := by
 obtain ⟨v', e, r⟩ := RI.part0_b (k2 := k2) H hab
 exact ⟨v', fun h' hs => (SL.same H hs).trans e, r⟩
end
/-! ### Appending -/
def appKB (h : Heap) (nid : Option Nat) (sz bytes i o n c m : Nat) (news : List AV) : Option ABlk → Option (AV × Heap)
 | some (.cells vs true u) => if o + n * sz ≤ vs.length then
    if n + m ≤ c then
     if o + (n + m) * sz ≤ vs.length ∧ news.all AV.one = true then some (.slice i o (n + m) (.known c), h.put i (.cells (splice vs (o + n * sz) news) true u)) else none
    else if (n + m) * bytes ≤ 2 ^ 40 ∧ h.room nid = true then some (.slice (h.nid nid) 0 (n + m) (.unk 0), h.new nid (.cells (cut vs o (n * sz) ++ news) true sz)) else none
   else none
 | some (.cells vs false _) => if o + n * sz ≤ vs.length ∧ c < n + m ∧ (n + m) * bytes ≤ 2 ^ 40 ∧ h.room nid = true then
    some (.slice (h.nid nid) 0 (n + m) (.unk 0), h.new nid (.cells (cut vs o (n * sz) ++ news) true sz)) else none
 | _ => none
theorem app_known {h nid sz bytes i o n c m news} (hm : m ≠ 0) : appendA h nid sz bytes (.slice i o n (.known c)) m news = appKB h nid sz bytes i o n c m news (h.get i) := by
 simp only [appendA, if_neg hm, appKB]
 cases h.get i with
 | none => rfl
 | some b => cases b with
  | cells vs wr u => cases wr <;> rfl
  | _ => rfl
theorem appKB_grow {h : Heap} {sz bytes i o n c m : Nat} {news vs : List AV} {u : Nat} (h1 : o + n * sz ≤ vs.length) (h2 : c < n + m) (h3 : (n + m) * bytes ≤ 1099511627776) :
  appKB h none sz bytes i o n c m news (some (.cells vs true u)) = some (.slice h.size 0 (n + m) (.unk 0), h.push (.cells (cut vs o (n * sz) ++ news) true sz)) := by
 simp only [appKB]
 rw [if_pos h1, if_neg (by omega), if_pos ⟨h3, rfl⟩]; rfl
theorem appKB_room {h : Heap} {nid : Option Nat} {sz bytes i o n c m : Nat} {news vs : List AV} {u : Nat} (h1 : o + n * sz ≤ vs.length) (h2 : n + m ≤ c) (h3 : o + (n + m) * sz ≤ vs.length) (h4 : news.all AV.one = true) :
  appKB h nid sz bytes i o n c m news (some (.cells vs true u)) = some (.slice i o (n + m) (.known c), h.put i (.cells (splice vs (o + n * sz) news) true u)) := by
 simp only [appKB]
 rw [if_pos h1, if_pos h2, if_pos ⟨h3, h4⟩]
def appUB (h : Heap) (nid : Option Nat) (sz bytes i o n l m : Nat) (news : List AV) : Option ABlk → Option (AV × Heap)
 | some (.cells vs true u) => if u = sz ∧ o = l * sz ∧ o + n * sz ≤ vs.length ∧ news.all AV.one = true ∧ (n + m) * bytes ≤ 2 ^ 40 ∧ h.room nid = true ∧ 0 < m then
    some (.slice (h.nid nid) 0 (n + m) (.unk 0), (h.put i .dead).new nid (.cells (cut vs o (n * sz) ++ news) true sz))
   else if u = sz ∧ o = l * sz ∧ o + n * sz ≤ vs.length ∧ m = 0 then some (.slice i o n (.unk l), h) else none
 | _ => none
theorem app_unk {h nid sz bytes i o n l m news} : appendA h nid sz bytes (.slice i o n (.unk l)) m news = appUB h nid sz bytes i o n l m news (h.get i) := by
 simp only [appendA, appUB]
 cases h.get i with
 | none => rfl
 | some b => cases b with
  | cells vs wr u => cases wr <;> rfl
  | _ => rfl
theorem appUB_grow {h : Heap} {sz bytes i n m : Nat} {news vs : List AV} (h1 : n * sz ≤ vs.length) (h2 : 0 < m) (h3 : (n + m) * bytes ≤ 1099511627776) (h4 : news.all AV.one = true) :
  appUB h none sz bytes i 0 n 0 m news (some (.cells vs true sz)) = some (.slice h.size 0 (n + m) (.unk 0), (h.put i .dead).push (.cells (cut vs 0 (n * sz) ++ news) true sz)) := by
 simp only [appUB]
 rw [if_pos ⟨trivial, by omega, by omega, h4, h3, rfl, h2⟩]; rfl
theorem app_nil {h : Heap} {sz bytes m : Nat} {news : List AV} (h1 : m ≠ 0) (h2 : m * bytes ≤ 1099511627776) : appendA h none sz bytes .nilslice m news = some (.slice h.size 0 m (.unk 0), h.push (.cells news true sz)) := by
 simp only [appendA, if_neg h1]
 rw [if_pos ⟨h2, rfl⟩]; rfl
theorem app_nil0 {h : Heap} {nid : Option Nat} {sz bytes : Nat} {news : List AV} : appendA h nid sz bytes .nilslice 0 news = some (.nilslice, h) := rfl
theorem appA_some {nid sz bytes h s m news} : appA nid sz bytes h s (some (m, news)) = appendA h nid sz bytes s m news := rfl
/-! ### Ranges over functions -/
section
variable {C : Ctx}
class HoldL where
 run : ALoop → Prop
def atLoop (o : Option ABlk) [K : HoldL] : Prop :=
 match o with
 | some (.loop r) => K.run r
 | _ => False
theorem atLoop_some {r : ALoop} {K : ALoop → Prop} : @atLoop (some (.loop r)) ⟨K⟩ = K r := rfl
theorem atLoop_iff {o : Option ABlk} {K : ALoop → Prop} : @atLoop o ⟨K⟩ ↔ ∃ r, o = some (.loop r) ∧ K r := by
 cases o with
 | none => simp [atLoop]
 | some b => cases b <;> simp [atLoop]
theorem beginO_normal {nt l : Nat} {body : ACode} {Post : AV → Heap → Prop} {st : St} : beginO C nt l body Post .normal st =
  @atLoop (st.h.get l) ⟨fun r => r.state = .ready ∧ wp C nt (some l) body (roundO l Post) ⟨st.t, st.h.put l (.loop { r with state := .busy }), st.m⟩⟩ := by
 simp only [beginO, true_and]; exact propext atLoop_iff.symm
theorem roundO_normal {l : Nat} {Post : AV → Heap → Prop} {st : St} : roundO l Post .normal st =
  @atLoop (st.h.get l) ⟨fun r => Post (.bool true) (st.h.put l (.loop { r with state := .ready, pend := none }))⟩ := by
 simp only [roundO, ne_eq, not_true_eq_false, false_implies, true_implies, and_true]; exact propext atLoop_iff.symm
theorem roundO_exit {l i : Nat} {Post : AV → Heap → Prop} {st : St} : roundO l Post (.exit i) st =
  @atLoop (st.h.get l) ⟨fun r => Post (.bool false) (st.h.put l (.loop { r with state := .done, pend := some (.exit i) }))⟩ := by
 simp only [roundO, ne_eq, reduceCtorEq, not_false_eq_true, false_implies, true_implies, true_and]; exact propext atLoop_iff.symm
theorem roundO_ret {l : Nat} {Post : AV → Heap → Prop} {st : St} : roundO l Post .ret st =
  @atLoop (st.h.get l) ⟨fun r => Post (.bool false) (st.h.put l (.loop { r with state := .done, pend := some .ret }))⟩ := by
 simp only [roundO, ne_eq, reduceCtorEq, not_false_eq_true, false_implies, true_implies, true_and]; exact propext atLoop_iff.symm
theorem setParams_nil {t : Nat → AV} : setParams t [] [] = t := rfl
theorem setParams_cons {t : Nat → AV} {p : Nat} {ps : List Nat} {a : AV} {xs : List AV} : setParams t (p :: ps) (a :: xs) = setParams (upd t p a) ps xs := rfl
abbrev loop0 (t : Nat → AV) (nt : Nat) (ps : List Nat) (a b : ACode) (d : Nat) : ALoop := { state := .ready, pend := none, t := t, nt := nt, params := ps, assign := a, body := b, defers := d }
theorem ACallsK.hide {g : Nat} {args : List AV} {h : Heap} {K : HoldR} (k : ∀ H, H = h → @ACallsK C g args H K) : @ACallsK C g args h K := k h rfl
theorem ACalls.hideLoop {g : Nat} {args : List AV} {h : Heap} {d : ABlk} {r : ALoop} {P : AV → Heap → Prop} (k : ∀ R, R = r → ACalls C g args ((h.push d).push (.loop R)) P) : ACalls C g args ((h.push d).push (.loop r)) P := k r rfl
theorem loop_back {R : ALoop} (h1 : R.state = .ready) (h2 : R.pend = none) : ({ state := .ready, pend := none, t := R.t, nt := R.nt, params := R.params, assign := R.assign, body := R.body, defers := R.defers } : ALoop) = R := by
 cases R; cases h1; cases h2; rfl
def atDefd (o : Option ABlk) [K : Hold] : Prop :=
 match o with
 | some (.defd true) => K.run
 | _ => False
theorem atDefd_some {p : Prop} : @atDefd (some (.defd true)) ⟨p⟩ = p := rfl
theorem retO_marks {res Post t h i m} : retO res Post .ret ⟨t, h, i :: m⟩ = @atDefd (h.get i) ⟨retO res Post .ret ⟨t, h.put i (.defd false), m⟩⟩ := by
 simp only [retO, closeMarks, atDefd]
 cases h.get i with
 | none => rfl
 | some b => cases b with
  | defd o => cases o <;> rfl
  | _ => rfl
theorem retO_marksN {res Post t h i m} : retO res Post .normal ⟨t, h, i :: m⟩ = @atDefd (h.get i) ⟨retO res Post .normal ⟨t, h.put i (.defd false), m⟩⟩ := by
 simp only [retO, closeMarks, atDefd]
 cases h.get i with
 | none => rfl
 | some b => cases b with
  | defd o => cases o <;> rfl
  | _ => rfl
theorem wpRange_none {nt g : Nat} {f c : List AV} {ps : List Nat} {a b : ACode} {Q : Out → St → Prop} {t : Nat → AV} {h : Heap} {m : List Nat} {D : Heap → Prop}
  (hc : ACalls C g (f ++ [.yield (h.size + 1)] ++ c) ((h.push (.defd true)).push (.loop (loop0 t nt ps a b h.size))) (fun _ h' => D h'))
  (hk : ∀ h', D h' → ∃ r, h'.get (h.size + 1) = some (.loop r) ∧ r.state ≠ .busy ∧ Q (r.pend.getD .normal) ⟨t, h'.put (h.size + 1) (.loop { r with state := .exhausted }), h.size :: m⟩) :
  wpRange C nt none (.func g f c) ps a b Q ⟨t, h, m⟩ := by
 show ACalls C g _ _ _
 exact hc.mono fun _ h' => hk h'
end
end Go.Ae
