/- Texts of the proof, part 9: a second reading of the lowered code, proved sound, and what the functions compute. -/
import Derived.Test.YtkcefboocpfgjaaGreatProg
import Derived.Test.YtkcefboocpfgjaaGreatQ8
set_option linter.unusedSimpArgs false
set_option linter.unusedVariables false
namespace Go.Proofs.YtkcefboocpfgjaaGreat
open Go.Ae
noncomputable section
def invL : List (Option Nat) := [none, none, none, some 365, some 366, some 367, some 368, some 369, some 370, some 371, some 12, some 372, some 373, some 374, some 318, some 375, some 219, some 376, some 377, some 378, some 379, some 380, some 381, some 382, some 357, some 383, some 313, some 384, some 230, some 316, some 70, some 237, some 89, some 385, some 255, some 386, some 387, some 388, some 277, some 389, some 220, some 352, some 244, some 390, some 391, some 331, some 332, some 105, some 314, some 240, some 77, some 251, some 335, some 176, some 336, some 337, some 99, some 260, some 292, some 296, some 297, some 71, some 276, some 339, some 340, some 334, some 333, some 224, some 75, some 246, some 241, some 248, some 130, some 139, some 343, some 169, some 184, some 177, some 348, some 302, some 300, some 131, some 293, some 303, some 21, some 294, some 295, some 349, some 350, some 172, some 351, some 347, some 73, some 91, some 258, some 141, some 179, some 182, some 181, some 142, some 25, some 41, some 37, some 38, some 42, some 43, some 39, some 301, some 150, some 183, some 355, some 356, some 149, some 76, some 90, some 46, some 47, some 50, some 51, some 52, some 27, some 30, some 53, some 54, some 35, some 187, some 188, some 189, some 180, some 74, some 100, some 56, some 49, some 33, some 201, some 154, some 72, some 81, some 104, some 57, some 58, some 59, some 60, some 92, some 93, some 61, some 95, some 101, some 102, none, none, none, none, none, none, none, none, none, none, none, none, none, none, none, none, none]
def lkL : List Nat := [0, 0, 0, 0, 0, 0, 0, 0, 0, 0, 0, 0, 10, 0, 0, 0, 0, 0, 0, 0, 0, 84, 0, 0, 0, 100, 0, 120, 0, 0, 121, 0, 0, 133, 0, 124, 0, 102, 103, 106, 0, 101, 104, 105, 0, 0, 115, 116, 0, 132, 117, 118, 119, 122, 123, 0, 131, 139, 140, 141, 142, 145, 0, 0, 0, 0, 0, 0, 0, 0, 30, 61, 136, 92, 129, 68, 113, 50, 0, 0, 0, 137, 0, 0, 0, 0, 0, 0, 0, 32, 114, 93, 143, 144, 0, 146, 0, 0, 0, 56, 130, 147, 148, 0, 138, 47, 0, 0, 0, 0, 0, 0, 0, 0, 0, 0, 0, 0, 0, 0, 0, 0, 0, 0, 0, 0, 0, 0, 0, 0, 72, 81, 0, 0, 0, 0, 0, 0, 0, 73, 0, 95, 99, 0, 0, 0, 0, 0, 0, 112, 108, 0, 0, 0, 135, 0, 0, 0, 0, 0, 0, 0, 0, 0, 0, 0, 0, 0, 0, 75, 0, 0, 89, 0, 0, 0, 53, 77, 0, 96, 128, 98, 97, 109, 76, 0, 0, 125, 126, 127, 0, 0, 0, 0, 0, 0, 0, 0, 0, 0, 0, 134, 0, 0, 0, 0, 0, 0, 0, 0, 0, 0, 0, 0, 0, 0, 0, 0, 0, 16, 40, 0, 0, 0, 67, 0, 0, 0, 0, 0, 28, 0, 0, 0, 0, 0, 0, 31, 0, 0, 49, 70, 0, 0, 42, 0, 69, 0, 71, 0, 0, 51, 0, 0, 0, 34, 0, 0, 94, 0, 57, 0, 0, 0, 0, 0, 0, 0, 0, 0, 0, 0, 0, 0, 0, 0, 62, 38, 0, 0, 0, 0, 0, 0, 0, 0, 0, 0, 0, 0, 0, 0, 58, 82, 85, 86, 59, 60, 0, 0, 80, 107, 79, 83, 0, 0, 0, 0, 0, 0, 0, 0, 0, 26, 48, 0, 29, 0, 14, 0, 0, 0, 0, 0, 0, 0, 0, 0, 0, 0, 0, 45, 46, 66, 65, 52, 54, 55, 0, 63, 64, 0, 0, 74, 0, 0, 0, 91, 78, 87, 88, 90, 41, 0, 0, 110, 111, 24, 0, 0, 0, 0, 0, 0, 0, 3, 4, 5, 6, 7, 8, 9, 11, 12, 13, 15, 17, 18, 19, 20, 21, 22, 23, 25, 27, 33, 35, 36, 37, 39, 43, 44]
theorem invOk : ((List.range invL.length).all fun f => match invL.getD f none with | some g => lkL.getD g 0 == f | none => true) = true := by decide +kernel
noncomputable def ctx : Ctx where
 P := Tryz.prog
 lk := fun g => lkL.getD g 0
 inv := fun f => invL.getD f none
 hinv := by
  intro f g h
  have hlt : f < invL.length := by
   rcases Nat.lt_or_ge f invL.length with x | x
   ·exact x
   ·rw [List.getD_eq_getElem?_getD, List.getElem?_eq_none x] at h; cases h
  have := List.all_eq_true.1 invOk f (by simpa using hlt)
  rw [h] at this
  simpa using this
 mixed := by kernel_rfl
theorem L365 : ctx.body 365 = some B365 := by kernel_rfl
theorem L366 : ctx.body 366 = some B366 := by kernel_rfl
theorem L367 : ctx.body 367 = some B367 := by kernel_rfl
theorem L368 : ctx.body 368 = some B368 := by kernel_rfl
theorem L369 : ctx.body 369 = some B369 := by kernel_rfl
theorem L370 : ctx.body 370 = some B370 := by kernel_rfl
theorem L371 : ctx.body 371 = some B371 := by kernel_rfl
theorem L12 : ctx.body 12 = some B12 := by kernel_rfl
theorem L372 : ctx.body 372 = some B372 := by kernel_rfl
theorem L373 : ctx.body 373 = some B373 := by kernel_rfl
theorem L374 : ctx.body 374 = some B374 := by kernel_rfl
theorem L318 : ctx.body 318 = some B318 := by kernel_rfl
theorem L375 : ctx.body 375 = some B375 := by kernel_rfl
theorem L219 : ctx.body 219 = some B219 := by kernel_rfl
theorem L376 : ctx.body 376 = some B376 := by kernel_rfl
theorem L377 : ctx.body 377 = some B377 := by kernel_rfl
theorem L378 : ctx.body 378 = some B378 := by kernel_rfl
theorem L379 : ctx.body 379 = some B379 := by kernel_rfl
theorem L380 : ctx.body 380 = some B380 := by kernel_rfl
theorem L381 : ctx.body 381 = some B381 := by kernel_rfl
theorem L382 : ctx.body 382 = some B382 := by kernel_rfl
theorem L357 : ctx.body 357 = some B357 := by kernel_rfl
theorem L383 : ctx.body 383 = some B383 := by kernel_rfl
theorem L313 : ctx.body 313 = some B313 := by kernel_rfl
theorem L384 : ctx.body 384 = some B384 := by kernel_rfl
theorem L230 : ctx.body 230 = some B230 := by kernel_rfl
theorem L316 : ctx.body 316 = some B316 := by kernel_rfl
theorem L70 : ctx.body 70 = some B70 := by kernel_rfl
theorem L237 : ctx.body 237 = some B237 := by kernel_rfl
theorem L89 : ctx.body 89 = some B89 := by kernel_rfl
theorem L385 : ctx.body 385 = some B385 := by kernel_rfl
theorem L255 : ctx.body 255 = some B255 := by kernel_rfl
theorem L386 : ctx.body 386 = some B386 := by kernel_rfl
theorem L387 : ctx.body 387 = some B387 := by kernel_rfl
theorem L388 : ctx.body 388 = some B388 := by kernel_rfl
theorem L277 : ctx.body 277 = some B277 := by kernel_rfl
theorem L389 : ctx.body 389 = some B389 := by kernel_rfl
theorem L220 : ctx.body 220 = some B220 := by kernel_rfl
theorem L352 : ctx.body 352 = some B352 := by kernel_rfl
theorem L244 : ctx.body 244 = some B244 := by kernel_rfl
theorem L390 : ctx.body 390 = some B390 := by kernel_rfl
theorem L391 : ctx.body 391 = some B391 := by kernel_rfl
theorem L331 : ctx.body 331 = some B331 := by kernel_rfl
theorem L332 : ctx.body 332 = some B332 := by kernel_rfl
theorem L105 : ctx.body 105 = some B105 := by kernel_rfl
theorem L314 : ctx.body 314 = some B314 := by kernel_rfl
theorem L240 : ctx.body 240 = some B240 := by kernel_rfl
theorem L77 : ctx.body 77 = some B77 := by kernel_rfl
theorem L251 : ctx.body 251 = some B251 := by kernel_rfl
theorem L335 : ctx.body 335 = some B335 := by kernel_rfl
theorem L176 : ctx.body 176 = some B176 := by kernel_rfl
theorem L336 : ctx.body 336 = some B336 := by kernel_rfl
theorem L337 : ctx.body 337 = some B337 := by kernel_rfl
theorem L99 : ctx.body 99 = some B99 := by kernel_rfl
theorem L260 : ctx.body 260 = some B260 := by kernel_rfl
theorem L292 : ctx.body 292 = some B292 := by kernel_rfl
theorem L296 : ctx.body 296 = some B296 := by kernel_rfl
theorem L297 : ctx.body 297 = some B297 := by kernel_rfl
theorem L71 : ctx.body 71 = some B71 := by kernel_rfl
theorem L276 : ctx.body 276 = some B276 := by kernel_rfl
theorem L339 : ctx.body 339 = some B339 := by kernel_rfl
theorem L340 : ctx.body 340 = some B340 := by kernel_rfl
theorem L334 : ctx.body 334 = some B334 := by kernel_rfl
theorem L333 : ctx.body 333 = some B333 := by kernel_rfl
theorem L224 : ctx.body 224 = some B224 := by kernel_rfl
theorem L75 : ctx.body 75 = some B75 := by kernel_rfl
theorem L246 : ctx.body 246 = some B246 := by kernel_rfl
theorem L241 : ctx.body 241 = some B241 := by kernel_rfl
theorem L248 : ctx.body 248 = some B248 := by kernel_rfl
theorem L130 : ctx.body 130 = some B130 := by kernel_rfl
theorem L139 : ctx.body 139 = some B139 := by kernel_rfl
theorem L343 : ctx.body 343 = some B343 := by kernel_rfl
theorem L169 : ctx.body 169 = some B169 := by kernel_rfl
theorem L184 : ctx.body 184 = some B184 := by kernel_rfl
theorem L177 : ctx.body 177 = some B177 := by kernel_rfl
theorem L348 : ctx.body 348 = some B348 := by kernel_rfl
theorem L302 : ctx.body 302 = some B302 := by kernel_rfl
theorem L300 : ctx.body 300 = some B300 := by kernel_rfl
theorem L131 : ctx.body 131 = some B131 := by kernel_rfl
theorem L293 : ctx.body 293 = some B293 := by kernel_rfl
theorem L303 : ctx.body 303 = some B303 := by kernel_rfl
theorem L21 : ctx.body 21 = some B21 := by kernel_rfl
theorem L294 : ctx.body 294 = some B294 := by kernel_rfl
theorem L295 : ctx.body 295 = some B295 := by kernel_rfl
theorem L349 : ctx.body 349 = some B349 := by kernel_rfl
theorem L350 : ctx.body 350 = some B350 := by kernel_rfl
theorem L172 : ctx.body 172 = some B172 := by kernel_rfl
theorem L351 : ctx.body 351 = some B351 := by kernel_rfl
theorem L347 : ctx.body 347 = some B347 := by kernel_rfl
theorem L73 : ctx.body 73 = some B73 := by kernel_rfl
theorem L91 : ctx.body 91 = some B91 := by kernel_rfl
theorem L258 : ctx.body 258 = some B258 := by kernel_rfl
theorem L141 : ctx.body 141 = some B141 := by kernel_rfl
theorem L179 : ctx.body 179 = some B179 := by kernel_rfl
theorem L182 : ctx.body 182 = some B182 := by kernel_rfl
theorem L181 : ctx.body 181 = some B181 := by kernel_rfl
theorem L142 : ctx.body 142 = some B142 := by kernel_rfl
theorem L25 : ctx.body 25 = some B25 := by kernel_rfl
theorem L41 : ctx.body 41 = some B41 := by kernel_rfl
theorem L37 : ctx.body 37 = some B37 := by kernel_rfl
theorem L38 : ctx.body 38 = some B38 := by kernel_rfl
theorem L42 : ctx.body 42 = some B42 := by kernel_rfl
theorem L43 : ctx.body 43 = some B43 := by kernel_rfl
theorem L39 : ctx.body 39 = some B39 := by kernel_rfl
theorem L301 : ctx.body 301 = some B301 := by kernel_rfl
theorem L150 : ctx.body 150 = some B150 := by kernel_rfl
theorem L183 : ctx.body 183 = some B183 := by kernel_rfl
theorem L355 : ctx.body 355 = some B355 := by kernel_rfl
theorem L356 : ctx.body 356 = some B356 := by kernel_rfl
theorem L149 : ctx.body 149 = some B149 := by kernel_rfl
theorem L76 : ctx.body 76 = some B76 := by kernel_rfl
theorem L90 : ctx.body 90 = some B90 := by kernel_rfl
theorem L46 : ctx.body 46 = some B46 := by kernel_rfl
theorem L47 : ctx.body 47 = some B47 := by kernel_rfl
theorem L50 : ctx.body 50 = some B50 := by kernel_rfl
theorem L51 : ctx.body 51 = some B51 := by kernel_rfl
theorem L52 : ctx.body 52 = some B52 := by kernel_rfl
theorem L27 : ctx.body 27 = some B27 := by kernel_rfl
theorem L30 : ctx.body 30 = some B30 := by kernel_rfl
theorem L53 : ctx.body 53 = some B53 := by kernel_rfl
theorem L54 : ctx.body 54 = some B54 := by kernel_rfl
theorem L35 : ctx.body 35 = some B35 := by kernel_rfl
theorem L187 : ctx.body 187 = some B187 := by kernel_rfl
theorem L188 : ctx.body 188 = some B188 := by kernel_rfl
theorem L189 : ctx.body 189 = some B189 := by kernel_rfl
theorem L180 : ctx.body 180 = some B180 := by kernel_rfl
theorem L74 : ctx.body 74 = some B74 := by kernel_rfl
theorem L100 : ctx.body 100 = some B100 := by kernel_rfl
theorem L56 : ctx.body 56 = some B56 := by kernel_rfl
theorem L49 : ctx.body 49 = some B49 := by kernel_rfl
theorem L33 : ctx.body 33 = some B33 := by kernel_rfl
theorem L201 : ctx.body 201 = some B201 := by kernel_rfl
theorem L154 : ctx.body 154 = some B154 := by kernel_rfl
theorem L72 : ctx.body 72 = some B72 := by kernel_rfl
theorem L81 : ctx.body 81 = some B81 := by kernel_rfl
theorem L104 : ctx.body 104 = some B104 := by kernel_rfl
theorem L57 : ctx.body 57 = some B57 := by kernel_rfl
theorem L58 : ctx.body 58 = some B58 := by kernel_rfl
theorem L59 : ctx.body 59 = some B59 := by kernel_rfl
theorem L60 : ctx.body 60 = some B60 := by kernel_rfl
theorem L92 : ctx.body 92 = some B92 := by kernel_rfl
theorem L93 : ctx.body 93 = some B93 := by kernel_rfl
theorem L61 : ctx.body 61 = some B61 := by kernel_rfl
theorem L95 : ctx.body 95 = some B95 := by kernel_rfl
theorem L101 : ctx.body 101 = some B101 := by kernel_rfl
theorem L102 : ctx.body 102 = some B102 := by kernel_rfl
def all : List Nat := [365, 366, 367, 368, 369, 370, 371, 12, 372, 373, 374, 318, 375, 219, 376, 377, 378, 379, 380, 381, 382, 357, 383, 313, 384, 230, 316, 70, 237, 89, 385, 255, 386, 387, 388, 277, 389, 220, 352, 244, 390, 391, 331, 332, 105, 314, 240, 77, 251, 335, 176, 336, 337, 99, 260, 292, 296, 297, 71, 276, 339, 340, 334, 333, 224, 75, 246, 241, 248, 130, 139, 343, 169, 184, 177, 348, 302, 300, 131, 293, 303, 21, 294, 295, 349, 350, 172, 351, 347, 73, 91, 258, 141, 179, 182, 181, 142, 25, 41, 37, 38, 42, 43, 39, 301, 150, 183, 355, 356, 149, 76, 90, 46, 47, 50, 51, 52, 27, 30, 53, 54, 35, 187, 188, 189, 180, 74, 100, 56, 49, 33, 201, 154, 72, 81, 104, 57, 58, 59, 60, 92, 93, 61, 95, 101, 102]
theorem has : Has ctx all := by
 unfold Has all
 simp only [List.forall_mem_cons]
 refine ⟨?_, ?_, ?_, ?_, ?_, ?_, ?_, ?_, ?_, ?_, ?_, ?_, ?_, ?_, ?_, ?_, ?_, ?_, ?_, ?_, ?_, ?_, ?_, ?_, ?_, ?_, ?_, ?_, ?_, ?_, ?_, ?_, ?_, ?_, ?_, ?_, ?_, ?_, ?_, ?_, ?_, ?_, ?_, ?_, ?_, ?_, ?_, ?_, ?_, ?_, ?_, ?_, ?_, ?_, ?_, ?_, ?_, ?_, ?_, ?_, ?_, ?_, ?_, ?_, ?_, ?_, ?_, ?_, ?_, ?_, ?_, ?_, ?_, ?_, ?_, ?_, ?_, ?_, ?_, ?_, ?_, ?_, ?_, ?_, ?_, ?_, ?_, ?_, ?_, ?_, ?_, ?_, ?_, ?_, ?_, ?_, ?_, ?_, ?_, ?_, ?_, ?_, ?_, ?_, ?_, ?_, ?_, ?_, ?_, ?_, ?_, ?_, ?_, ?_, ?_, ?_, ?_, ?_, ?_, ?_, ?_, ?_, ?_, ?_, ?_, ?_, ?_, ?_, ?_, ?_, ?_, ?_, ?_, ?_, ?_, ?_, ?_, ?_, ?_, ?_, ?_, ?_, ?_, ?_, ?_, ?_, by simp⟩
 ·intro b h; rw [tab365] at h; cases h; exact L365
 ·intro b h; rw [tab366] at h; cases h; exact L366
 ·intro b h; rw [tab367] at h; cases h; exact L367
 ·intro b h; rw [tab368] at h; cases h; exact L368
 ·intro b h; rw [tab369] at h; cases h; exact L369
 ·intro b h; rw [tab370] at h; cases h; exact L370
 ·intro b h; rw [tab371] at h; cases h; exact L371
 ·intro b h; rw [tab12] at h; cases h; exact L12
 ·intro b h; rw [tab372] at h; cases h; exact L372
 ·intro b h; rw [tab373] at h; cases h; exact L373
 ·intro b h; rw [tab374] at h; cases h; exact L374
 ·intro b h; rw [tab318] at h; cases h; exact L318
 ·intro b h; rw [tab375] at h; cases h; exact L375
 ·intro b h; rw [tab219] at h; cases h; exact L219
 ·intro b h; rw [tab376] at h; cases h; exact L376
 ·intro b h; rw [tab377] at h; cases h; exact L377
 ·intro b h; rw [tab378] at h; cases h; exact L378
 ·intro b h; rw [tab379] at h; cases h; exact L379
 ·intro b h; rw [tab380] at h; cases h; exact L380
 ·intro b h; rw [tab381] at h; cases h; exact L381
 ·intro b h; rw [tab382] at h; cases h; exact L382
 ·intro b h; rw [tab357] at h; cases h; exact L357
 ·intro b h; rw [tab383] at h; cases h; exact L383
 ·intro b h; rw [tab313] at h; cases h; exact L313
 ·intro b h; rw [tab384] at h; cases h; exact L384
 ·intro b h; rw [tab230] at h; cases h; exact L230
 ·intro b h; rw [tab316] at h; cases h; exact L316
 ·intro b h; rw [tab70] at h; cases h; exact L70
 ·intro b h; rw [tab237] at h; cases h; exact L237
 ·intro b h; rw [tab89] at h; cases h; exact L89
 ·intro b h; rw [tab385] at h; cases h; exact L385
 ·intro b h; rw [tab255] at h; cases h; exact L255
 ·intro b h; rw [tab386] at h; cases h; exact L386
 ·intro b h; rw [tab387] at h; cases h; exact L387
 ·intro b h; rw [tab388] at h; cases h; exact L388
 ·intro b h; rw [tab277] at h; cases h; exact L277
 ·intro b h; rw [tab389] at h; cases h; exact L389
 ·intro b h; rw [tab220] at h; cases h; exact L220
 ·intro b h; rw [tab352] at h; cases h; exact L352
 ·intro b h; rw [tab244] at h; cases h; exact L244
 ·intro b h; rw [tab390] at h; cases h; exact L390
 ·intro b h; rw [tab391] at h; cases h; exact L391
 ·intro b h; rw [tab331] at h; cases h; exact L331
 ·intro b h; rw [tab332] at h; cases h; exact L332
 ·intro b h; rw [tab105] at h; cases h; exact L105
 ·intro b h; rw [tab314] at h; cases h; exact L314
 ·intro b h; rw [tab240] at h; cases h; exact L240
 ·intro b h; rw [tab77] at h; cases h; exact L77
 ·intro b h; rw [tab251] at h; cases h; exact L251
 ·intro b h; rw [tab335] at h; cases h; exact L335
 ·intro b h; rw [tab176] at h; cases h; exact L176
 ·intro b h; rw [tab336] at h; cases h; exact L336
 ·intro b h; rw [tab337] at h; cases h; exact L337
 ·intro b h; rw [tab99] at h; cases h; exact L99
 ·intro b h; rw [tab260] at h; cases h; exact L260
 ·intro b h; rw [tab292] at h; cases h; exact L292
 ·intro b h; rw [tab296] at h; cases h; exact L296
 ·intro b h; rw [tab297] at h; cases h; exact L297
 ·intro b h; rw [tab71] at h; cases h; exact L71
 ·intro b h; rw [tab276] at h; cases h; exact L276
 ·intro b h; rw [tab339] at h; cases h; exact L339
 ·intro b h; rw [tab340] at h; cases h; exact L340
 ·intro b h; rw [tab334] at h; cases h; exact L334
 ·intro b h; rw [tab333] at h; cases h; exact L333
 ·intro b h; rw [tab224] at h; cases h; exact L224
 ·intro b h; rw [tab75] at h; cases h; exact L75
 ·intro b h; rw [tab246] at h; cases h; exact L246
 ·intro b h; rw [tab241] at h; cases h; exact L241
 ·intro b h; rw [tab248] at h; cases h; exact L248
 ·intro b h; rw [tab130] at h; cases h; exact L130
 ·intro b h; rw [tab139] at h; cases h; exact L139
 ·intro b h; rw [tab343] at h; cases h; exact L343
 ·intro b h; rw [tab169] at h; cases h; exact L169
 ·intro b h; rw [tab184] at h; cases h; exact L184
 ·intro b h; rw [tab177] at h; cases h; exact L177
 ·intro b h; rw [tab348] at h; cases h; exact L348
 ·intro b h; rw [tab302] at h; cases h; exact L302
 ·intro b h; rw [tab300] at h; cases h; exact L300
 ·intro b h; rw [tab131] at h; cases h; exact L131
 ·intro b h; rw [tab293] at h; cases h; exact L293
 ·intro b h; rw [tab303] at h; cases h; exact L303
 ·intro b h; rw [tab21] at h; cases h; exact L21
 ·intro b h; rw [tab294] at h; cases h; exact L294
 ·intro b h; rw [tab295] at h; cases h; exact L295
 ·intro b h; rw [tab349] at h; cases h; exact L349
 ·intro b h; rw [tab350] at h; cases h; exact L350
 ·intro b h; rw [tab172] at h; cases h; exact L172
 ·intro b h; rw [tab351] at h; cases h; exact L351
 ·intro b h; rw [tab347] at h; cases h; exact L347
 ·intro b h; rw [tab73] at h; cases h; exact L73
 ·intro b h; rw [tab91] at h; cases h; exact L91
 ·intro b h; rw [tab258] at h; cases h; exact L258
 ·intro b h; rw [tab141] at h; cases h; exact L141
 ·intro b h; rw [tab179] at h; cases h; exact L179
 ·intro b h; rw [tab182] at h; cases h; exact L182
 ·intro b h; rw [tab181] at h; cases h; exact L181
 ·intro b h; rw [tab142] at h; cases h; exact L142
 ·intro b h; rw [tab25] at h; cases h; exact L25
 ·intro b h; rw [tab41] at h; cases h; exact L41
 ·intro b h; rw [tab37] at h; cases h; exact L37
 ·intro b h; rw [tab38] at h; cases h; exact L38
 ·intro b h; rw [tab42] at h; cases h; exact L42
 ·intro b h; rw [tab43] at h; cases h; exact L43
 ·intro b h; rw [tab39] at h; cases h; exact L39
 ·intro b h; rw [tab301] at h; cases h; exact L301
 ·intro b h; rw [tab150] at h; cases h; exact L150
 ·intro b h; rw [tab183] at h; cases h; exact L183
 ·intro b h; rw [tab355] at h; cases h; exact L355
 ·intro b h; rw [tab356] at h; cases h; exact L356
 ·intro b h; rw [tab149] at h; cases h; exact L149
 ·intro b h; rw [tab76] at h; cases h; exact L76
 ·intro b h; rw [tab90] at h; cases h; exact L90
 ·intro b h; rw [tab46] at h; cases h; exact L46
 ·intro b h; rw [tab47] at h; cases h; exact L47
 ·intro b h; rw [tab50] at h; cases h; exact L50
 ·intro b h; rw [tab51] at h; cases h; exact L51
 ·intro b h; rw [tab52] at h; cases h; exact L52
 ·intro b h; rw [tab27] at h; cases h; exact L27
 ·intro b h; rw [tab30] at h; cases h; exact L30
 ·intro b h; rw [tab53] at h; cases h; exact L53
 ·intro b h; rw [tab54] at h; cases h; exact L54
 ·intro b h; rw [tab35] at h; cases h; exact L35
 ·intro b h; rw [tab187] at h; cases h; exact L187
 ·intro b h; rw [tab188] at h; cases h; exact L188
 ·intro b h; rw [tab189] at h; cases h; exact L189
 ·intro b h; rw [tab180] at h; cases h; exact L180
 ·intro b h; rw [tab74] at h; cases h; exact L74
 ·intro b h; rw [tab100] at h; cases h; exact L100
 ·intro b h; rw [tab56] at h; cases h; exact L56
 ·intro b h; rw [tab49] at h; cases h; exact L49
 ·intro b h; rw [tab33] at h; cases h; exact L33
 ·intro b h; rw [tab201] at h; cases h; exact L201
 ·intro b h; rw [tab154] at h; cases h; exact L154
 ·intro b h; rw [tab72] at h; cases h; exact L72
 ·intro b h; rw [tab81] at h; cases h; exact L81
 ·intro b h; rw [tab104] at h; cases h; exact L104
 ·intro b h; rw [tab57] at h; cases h; exact L57
 ·intro b h; rw [tab58] at h; cases h; exact L58
 ·intro b h; rw [tab59] at h; cases h; exact L59
 ·intro b h; rw [tab60] at h; cases h; exact L60
 ·intro b h; rw [tab92] at h; cases h; exact L92
 ·intro b h; rw [tab93] at h; cases h; exact L93
 ·intro b h; rw [tab61] at h; cases h; exact L61
 ·intro b h; rw [tab95] at h; cases h; exact L95
 ·intro b h; rw [tab101] at h; cases h; exact L101
 ·intro b h; rw [tab102] at h; cases h; exact L102
end
end Go.Proofs.YtkcefboocpfgjaaGreat
namespace Go.Ae
section
variable {C : Ctx}
theorem ACalls.gc0 {g : Nat} {args : List AV} {h : Heap} {P : AV → Heap → Prop} {Q : AV → Heap → Prop} (hc : ACalls C g args h P)
  (hq : ∀ r h', P r h' → (r.free ∧ HSub h h' ∧ Q r h)) : ACalls C g args h Q := by
 refine ⟨hc.1, fun keep env w R hb => ?_⟩
 refine (hc.2 keep env w R hb).mono ?_
 rintro e w' ⟨env1, r, h1, rfl, hP, R1, K1, X1, L1, _⟩
 obtain ⟨hf, hs, hQ⟩ := hq r h1 hP
 have hget : ∀ i b, h.get i = some b → h1.get i = some b := fun i b hb => (hs.get i (Heap.lt_of_get hb)).trans hb
 refine ⟨env1, r, h, rfl, hQ, ?_, K1, X1, HLe.refl _, bel_mono (fun _ hh => hh.elim) r hf⟩
 exact ⟨fun i b hi => R1.lt i b (hget i b hi), fun i b hi => R1.blk i b (hget i b hi), fun i j b c hi hj => R1.disj i j b c (hget i b hi) (hget j c hj), R.bel,
  fun i b hi => R1.kept i b (hget i b hi), R1.keepLt, fun i b hi => R1.hid i b (hget i b hi), R1.hidLt⟩
theorem jcn {vs : List AV} (h : ∀ v ∈ vs, v.free) : (AV.tuple vs).free := (jaE _ _).2 h
theorem jab {nt : Nat} {rd : Option Nat} {c : ACode} {Q : Out → St → Prop} {t : Nat → AV} {h : Heap} {m : List Nat} (I : Nat → (Nat → AV) → Heap → Prop) {j0 : Nat} (h0 : I j0 t h)
  (step : ∀ j t' h', I j t' h' → wp C nt rd c (thenO (fun st' => st'.m = m ∧ ∃ i, I i st'.t st'.h ∧ i < j) Q) ⟨t', h', m⟩) : wp C nt rd (.loop c) Q ⟨t, h, m⟩ :=
 jmR (I := fun j st => st.m = m ∧ I j st.t st.h) (j0 := j0) ⟨rfl, h0⟩
  (fun j u h' m' _ hI => by
   obtain ⟨hm, hI⟩ := hI
   have hm : m' = m := hm
   subst hm
   refine jjq ?_ (step j _ _ hI)
   intro o st' hq
   cases o with
   | normal => obtain ⟨a, i, b, d⟩ := hq; exact ⟨i, d, a, b⟩
   | exit id => exact hq
   | ret => exact hq)
  (fun hQ hw => jjq hQ hw)
end
end Go.Ae
namespace Go.Ae
/-! ### Parts of slices -/
def loI : Option AV → Option Int
 | some v => intA v
 | none => some 0
def hiI (len : Nat) (mx : Bool) : Option AV → Option Int
 | some v => intA v
 | none => if mx then none else some (len : Int)
def mxI (cap : Nat) : Option AV → Option Int
 | some v => intA v
 | none => some (cap : Int)
theorem jnL (len cap : Nat) (lo hi mx : Option AV) : jcb len cap lo hi mx = (match mxI cap mx, hiI len mx.isSome hi, loI lo with
 | some m, some hh, some l => if 0 ≤ l ∧ l ≤ hh ∧ hh ≤ m ∧ m ≤ cap then some (l.toNat, hh.toNat, m.toNat) else none
 | _, _, _ => none) := by
 cases lo <;> cases hi <;> cases mx <;> rfl
theorem jbB {len cap : Nat} {lo hi mx : Option AV} {a b c : Nat} (hlo : loI lo = some (a : Int)) (hhi : hiI len mx.isSome hi = some (b : Int))
  (hmx : mxI cap mx = some (c : Int)) (hab : a ≤ b ∧ b ≤ c ∧ c ≤ cap) : jcb len cap lo hi mx = some (a, b, c) := by
 rw [jnL, hlo, hhi, hmx]
 dsimp only
 rw [if_pos (by omega)]; simp
theorem SL.part {h : Heap} {sz n : Nat} {v : AV} {cs : List AV} (H : SL h sz v n cs) {lo hi mx : Option AV} {a b c : Nat} (hlo : loI lo = some (a : Int))
  (hhi : hiI n mx.isSome hi = some (b : Int)) (hmx : ∀ m, mx = some m → intA m = some (c : Int)) (hab : a ≤ b ∧ b ≤ n ∧ (mx.isSome = true → b ≤ c ∧ c ≤ n)) (hne : a < b ∨ a = 0 ∨ mx.isSome = true) :
  ∃ v', jav h sz v lo hi mx = some v' ∧ SL h sz v' (b - a) (cut cs (a * sz) ((b - a) * sz)) := by
 obtain ⟨hl, hlt, ⟨rfl, rfl⟩ | ⟨i, o, cp, vs, wr, u, rfl, hg, hle, hc, hcap⟩⟩ := H
 ·have ea : a = 0 := by omega
  have eb : b = 0 := by omega
  subst ea eb
  have : cs = [] := List.eq_nil_of_length_eq_zero (by omega)
  subst this
  refine ⟨.nilslice, ?_, by simp [cut], by omega, .inl ⟨rfl, rfl⟩⟩
  cases mx with
  | none => simp only [jav]; rw [jbB (a := 0) (b := 0) (c := 0) hlo hhi rfl (by omega)]
  | some m =>
   have hc0 : c = 0 := by have := hab.2.2 rfl; omega
   subst hc0
   simp only [jav]; rw [jbB (a := 0) (b := 0) (c := 0) hlo hhi (hmx _ rfl) (by omega)]
 ·have hb : b * sz ≤ n * sz := Nat.mul_le_mul_right _ hab.2.1
  have hba : (b - a) * sz = b * sz - a * sz := Nat.sub_mul _ _ _
  have hab' : a * sz ≤ b * sz := Nat.mul_le_mul_right _ hab.1
  have hlen : (cut cs (a * sz) ((b - a) * sz)).length = (b - a) * sz := by
   simp only [cut, List.length_take, List.length_drop, hl]; omega
  have hcut : cut vs (o + a * sz) ((b - a) * sz) = cut cs (a * sz) ((b - a) * sz) := by
   subst hc
   simp only [cut, List.drop_take, List.drop_drop, List.take_take]
   rw [Nat.min_eq_left (by omega)]
  have key : ∀ (cc : Nat), b ≤ cc → cc ≤ n ∨ mx = none → (match cp with | .known c0 => cc ≤ c0 | .unk _ => cc ≤ n) →
    (∀ m, mx = some m → intA m = some (cc : Int)) → (mx = none → match cp with | .known c0 => cc = c0 | .unk _ => cc = n) →
    ∃ v', jav h sz (.slice i o n cp) lo hi mx = some v' ∧ SL h sz v' (b - a) (cut cs (a * sz) ((b - a) * sz)) := by
   intro cc h1 h2 h3 h4 h5
   cases cp with
   | known c0 =>
    have hbd : jcb n c0 lo hi mx = some (a, b, cc) := by
     refine jbB hlo hhi ?_ ⟨hab.1, h1, h3⟩
     cases mx with
     | none => have h5 := h5 rfl; simp only at h5; subst h5; rfl
     | some m => exact h4 m rfl
    simp only [jav, hbd]
    by_cases e : cc = a
    ·subst e
     have : b = cc := by omega
     subst this
     refine ⟨_, rfl, ?_, by omega, .inr ⟨i, o, _, vs, wr, u, by rw [if_pos rfl], hg, by simp; omega, by simp [cut], by simp⟩⟩
     simp [cut]
    ·refine ⟨_, rfl, hlen, by omega, .inr ⟨i, o + a * sz, _, vs, wr, u, by rw [if_neg e], hg, by omega, hcut, by dsimp only; omega⟩⟩
   | unk l0 =>
    obtain ⟨rfl, rfl, rfl⟩ := hcap
    have hbd : jcb n n lo hi mx = some (a, b, cc) := by
     refine jbB hlo hhi ?_ ⟨hab.1, h1, h3⟩
     cases mx with
     | none => have h5 := h5 rfl; simp only at h5; subst h5; rfl
     | some m => exact h4 m rfl
    simp only [jav, hg]
    rw [if_pos ⟨trivial, trivial, hle⟩]
    simp only [hbd]
    cases mx with
    | none =>
     simp only [Option.isSome_none, Bool.false_eq_true, if_false]
     rw [if_pos (by simp at hne; omega)]
     exact ⟨_, rfl, hlen, by omega, .inr ⟨i, l0 * u + a * u, _, vs, true, u, rfl, hg, by omega, hcut, rfl, rfl, by rw [Nat.add_mul]⟩⟩
    | some m =>
     simp only [Option.isSome_some, if_true]
     by_cases e : cc = a
     ·subst e
      have : b = cc := by omega
      subst this
      refine ⟨_, rfl, ?_, by omega, .inr ⟨i, l0 * u, _, vs, true, u, by rw [if_pos rfl], hg, by simp; omega, by simp [cut], by simp⟩⟩
      simp [cut]
     ·exact ⟨_, rfl, hlen, by omega, .inr ⟨i, l0 * u + a * u, _, vs, true, u, by rw [if_neg e], hg, by omega, hcut, by dsimp only; omega⟩⟩
  cases mx with
  | some m =>
   have := hab.2.2 rfl
   refine key c this.1 (.inl this.2) ?_ hmx (by intro h; cases h)
   cases cp with
   | known c0 => exact Nat.le_trans this.2 hcap
   | unk l0 => exact this.2
  | none =>
   cases cp with
   | known c0 => exact key c0 (Nat.le_trans hab.2.1 hcap) (.inr rfl) (Nat.le_refl _) (by intro m h; cases h) (fun _ => rfl)
   | unk l0 => exact key n hab.2.1 (.inr rfl) (Nat.le_refl _) (by intro m h; cases h) (fun _ => rfl)
theorem RI.part {h : Heap} {v : AV} {l : List Int} (H : RI h v l) {lo hi mx : Option AV} {a b c : Nat} (hlo : loI lo = some (a : Int))
  (hhi : hiI l.length mx.isSome hi = some (b : Int)) (hmx : ∀ m, mx = some m → intA m = some (c : Int)) (hab : a ≤ b ∧ b ≤ l.length ∧ (mx.isSome = true → b ≤ c ∧ c ≤ l.length)) (hne : a < b ∨ a = 0 ∨ mx.isSome = true) :
  ∃ v', jav h 1 v lo hi mx = some v' ∧ RI h v' ((l.drop a).take (b - a)) := by
 obtain ⟨v', e, H'⟩ := SL.part H hlo hhi hmx hab hne
 refine ⟨v', e, ?_⟩
 have hl : ((l.drop a).take (b - a)).length = b - a := by simp; omega
 unfold RI
 rw [hl]
 rw [Nat.mul_one, Nat.mul_one, jkN] at H'
 exact H'
theorem SL.noRids {h : Heap} {sz n : Nat} {v : AV} {cs : List AV} (H : SL h sz v n cs) {x : Nat} (hx : h.size ≤ x) : jbq v.rids [x] := by
 obtain ⟨hl, hlt, ⟨rfl, rfl⟩ | ⟨i, o, cp, vs, wr, u, rfl, hg, _⟩⟩ := H
 ·simp [jbq, AV.rids]
 ·have := Heap.lt_of_get hg
  cases cp <;> simp [jbq, AV.rids]; omega
theorem SL.same {h h' : Heap} {sz n : Nat} {v : AV} {cs : List AV} (H : SL h sz v n cs) (hs : HSub h h') {s2 : Nat} {lo hi mx : Option AV} : jav h' s2 v lo hi mx = jav h s2 v lo hi mx := by
 obtain ⟨hl, hlt, ⟨rfl, rfl⟩ | ⟨i, o, cp, vs, wr, u, rfl, hg, _⟩⟩ := H
 ·rfl
 ·have e : h'.get i = h.get i := hs.get i (Heap.lt_of_get hg)
  cases cp with
  | known c => rfl
  | unk l => simp only [jav, e]
section
variable {h : Heap} {v : AV} {l : List Int} {k1 k2 k3 : IntKind} {a b c : Int}
theorem RI.part0_abc (H : RI h v l) (hab : 0 ≤ a ∧ a ≤ b ∧ b ≤ c ∧ c ≤ l.length) : ∃ v', jav h 1 v (some (.int k1 a)) (some (.int k2 b)) (some (.int k3 c)) = some v' ∧ RI h v' ((l.drop a.toNat).take (b.toNat - a.toNat)) :=
 H.part (c := c.toNat) (by simp only [loI, intA]; congr 1; omega) (by simp only [hiI, intA]; congr 1; omega) (by intro m e; cases e; simp only [intA]; congr 1; omega) (by omega) (.inr (.inr rfl))
theorem RI.part0_bc (H : RI h v l) (hab : 0 ≤ b ∧ b ≤ c ∧ c ≤ l.length) : ∃ v', jav h 1 v none (some (.int k2 b)) (some (.int k3 c)) = some v' ∧ RI h v' (l.take b.toNat) := by
 have := H.part (lo := none) (hi := some (.int k2 b)) (mx := some (.int k3 c)) (a := 0) (b := b.toNat) (c := c.toNat) rfl (by simp only [hiI, intA]; congr 1; omega) (by intro m e; cases e; simp only [intA]; congr 1; omega) (by omega) (.inr (.inr rfl))
 simpa using this
theorem RI.part0_b (H : RI h v l) (hab : 0 ≤ b ∧ b ≤ l.length) : ∃ v', jav h 1 v none (some (.int k2 b)) none = some v' ∧ RI h v' (l.take b.toNat) := by
 have := H.part (lo := none) (hi := some (.int k2 b)) (mx := none) (a := 0) (b := b.toNat) (c := 0) rfl (by simp only [hiI, intA]; congr 1; omega) (by intro m e; cases e) (by simp; omega) (by omega)
 simpa using this
theorem RI.part_abc (H : RI h v l) (hab : 0 ≤ a ∧ a ≤ b ∧ b ≤ c ∧ c ≤ l.length) : ∃ v', (∀ h', HSub h h' → jav h' 1 v (some (.int k1 a)) (some (.int k2 b)) (some (.int k3 c)) = some v') ∧ RI h v' ((l.drop a.toNat).take (b.toNat - a.toNat)) := by
 obtain ⟨v', e, r⟩ := RI.part0_abc (k1 := k1) (k2 := k2) (k3 := k3) H hab
 exact ⟨v', fun h' hs => (SL.same H hs).trans e, r⟩
theorem RI.part_bc (H : RI h v l) (hab : 0 ≤ b ∧ b ≤ c ∧ c ≤ l.length) : ∃ v', (∀ h', HSub h h' → jav h' 1 v none (some (.int k2 b)) (some (.int k3 c)) = some v') ∧ RI h v' (l.take b.toNat) := by
 obtain ⟨v', e, r⟩ := RI.part0_bc (k2 := k2) (k3 := k3) H hab
 exact ⟨v', fun h' hs => (SL.same H hs).trans e, r⟩
theorem RI.part_b (H : RI h v l) (hab : 0 ≤ b ∧ b ≤ l.length) : ∃ v', (∀ h', HSub h h' → jav h' 1 v none (some (.int k2 b)) none = some v') ∧ RI h v' (l.take b.toNat) := by
 obtain ⟨v', e, r⟩ := RI.part0_b (k2 := k2) H hab
 exact ⟨v', fun h' hs => (SL.same H hs).trans e, r⟩
end
/-! ### Appending -/
def appKB (h : Heap) (nid : Option Nat) (sz bytes i o n c m : Nat) (news : List AV) : Option ABlk → Option (AV × Heap)
 | some (.cells vs true u) => if o + n * sz ≤ vs.length then
    if n + m ≤ c then
     if o + (n + m) * sz ≤ vs.length ∧ news.all AV.one = true then some (.slice i o (n + m) (.known c), h.put i (.cells (splice vs (o + n * sz) news) true u)) else none
    else if (n + m) * bytes ≤ 2 ^ 40 ∧ h.room nid = true then some (.slice (h.nid nid) 0 (n + m) (.unk 0), h.new nid (.cells (cut vs o (n * sz) ++ news) true sz)) else none
   else none
 | some (.cells vs false _) => if o + n * sz ≤ vs.length ∧ c < n + m ∧ (n + m) * bytes ≤ 2 ^ 40 ∧ h.room nid = true then
    some (.slice (h.nid nid) 0 (n + m) (.unk 0), h.new nid (.cells (cut vs o (n * sz) ++ news) true sz)) else none
 | _ => none
theorem jnM {h nid sz bytes i o n c m news} (hm : m ≠ 0) : jah h nid sz bytes (.slice i o n (.known c)) m news = appKB h nid sz bytes i o n c m news (h.get i) := by
 simp only [jah, if_neg hm, appKB]
 cases h.get i with
 | none => rfl
 | some b => cases b with
  | cells vs wr u => cases wr <;> rfl
  | _ => rfl
theorem jlM {h : Heap} {sz bytes i o n c m : Nat} {news vs : List AV} {u : Nat} (h1 : o + n * sz ≤ vs.length) (h2 : c < n + m) (h3 : (n + m) * bytes ≤ 1099511627776) :
  appKB h none sz bytes i o n c m news (some (.cells vs true u)) = some (.slice h.size 0 (n + m) (.unk 0), h.push (.cells (cut vs o (n * sz) ++ news) true sz)) := by
 simp only [appKB]
 rw [if_pos h1, if_neg (by omega), if_pos ⟨h3, rfl⟩]; rfl
theorem jlN {h : Heap} {nid : Option Nat} {sz bytes i o n c m : Nat} {news vs : List AV} {u : Nat} (h1 : o + n * sz ≤ vs.length) (h2 : n + m ≤ c) (h3 : o + (n + m) * sz ≤ vs.length) (h4 : news.all AV.one = true) :
  appKB h nid sz bytes i o n c m news (some (.cells vs true u)) = some (.slice i o (n + m) (.known c), h.put i (.cells (splice vs (o + n * sz) news) true u)) := by
 simp only [appKB]
 rw [if_pos h1, if_pos h2, if_pos ⟨h3, h4⟩]
def appUB (h : Heap) (nid : Option Nat) (sz bytes i o n l m : Nat) (news : List AV) : Option ABlk → Option (AV × Heap)
 | some (.cells vs true u) => if u = sz ∧ o = l * sz ∧ o + n * sz ≤ vs.length ∧ news.all AV.one = true ∧ (n + m) * bytes ≤ 2 ^ 40 ∧ h.room nid = true ∧ 0 < m then
    some (.slice (h.nid nid) 0 (n + m) (.unk 0), (h.put i .dead).new nid (.cells (cut vs o (n * sz) ++ news) true sz))
   else if u = sz ∧ o = l * sz ∧ o + n * sz ≤ vs.length ∧ m = 0 then some (.slice i o n (.unk l), h) else none
 | _ => none
theorem jnN {h nid sz bytes i o n l m news} : jah h nid sz bytes (.slice i o n (.unk l)) m news = appUB h nid sz bytes i o n l m news (h.get i) := by
 simp only [jah, appUB]
 cases h.get i with
 | none => rfl
 | some b => cases b with
  | cells vs wr u => cases wr <;> rfl
  | _ => rfl
theorem jgG {h : Heap} {sz bytes i n m : Nat} {news vs : List AV} (h1 : n * sz ≤ vs.length) (h2 : 0 < m) (h3 : (n + m) * bytes ≤ 1099511627776) (h4 : news.all AV.one = true) :
  appUB h none sz bytes i 0 n 0 m news (some (.cells vs true sz)) = some (.slice h.size 0 (n + m) (.unk 0), (h.put i .dead).push (.cells (cut vs 0 (n * sz) ++ news) true sz)) := by
 simp only [appUB]
 rw [if_pos ⟨trivial, by omega, by omega, h4, h3, rfl, h2⟩]; rfl
theorem jnO {h : Heap} {sz bytes m : Nat} {news : List AV} (h1 : m ≠ 0) (h2 : m * bytes ≤ 1099511627776) : jah h none sz bytes .nilslice m news = some (.slice h.size 0 m (.unk 0), h.push (.cells news true sz)) := by
 simp only [jah, if_neg h1]
 rw [if_pos ⟨h2, rfl⟩]; rfl
theorem jpB {h : Heap} {nid : Option Nat} {sz bytes : Nat} {news : List AV} : jah h nid sz bytes .nilslice 0 news = some (.nilslice, h) := rfl
theorem jnP {nid sz bytes h s m news} : appA nid sz bytes h s (some (m, news)) = jah h nid sz bytes s m news := rfl
/-! ### Ranges over functions -/
section
variable {C : Ctx}
class HoldL where
 run : ALoop → Prop
def jco (o : Option ABlk) [K : HoldL] : Prop :=
 match o with
 | some (.loop r) => K.run r
 | _ => False
theorem jjK {r : ALoop} {K : ALoop → Prop} : @jco (some (.loop r)) ⟨K⟩ = K r := rfl
theorem jdg {o : Option ABlk} {K : ALoop → Prop} : @jco o ⟨K⟩ ↔ ∃ r, o = some (.loop r) ∧ K r := by
 cases o with
 | none => simp [jco]
 | some b => cases b <;> simp [jco]
theorem jho {nt l : Nat} {body : ACode} {Post : AV → Heap → Prop} {st : St} : jih C nt l body Post .normal st =
  @jco (st.h.get l) ⟨fun r => r.state = .ready ∧ wp C nt (some l) body (jb6 l Post) ⟨st.t, st.h.put l (.loop { r with state := .busy }), st.m⟩⟩ := by
 simp only [jih, true_and]; exact propext jdg.symm
theorem jhp {l : Nat} {Post : AV → Heap → Prop} {st : St} : jb6 l Post .normal st =
  @jco (st.h.get l) ⟨fun r => Post (.bool true) (st.h.put l (.loop { r with state := .ready, pend := none }))⟩ := by
 simp only [jb6, ne_eq, not_true_eq_false, false_implies, true_implies, and_true]; exact propext jdg.symm
theorem jjL {l i : Nat} {Post : AV → Heap → Prop} {st : St} : jb6 l Post (.exit i) st =
  @jco (st.h.get l) ⟨fun r => Post (.bool false) (st.h.put l (.loop { r with state := .done, pend := some (.exit i) }))⟩ := by
 simp only [jb6, ne_eq, reduceCtorEq, not_false_eq_true, false_implies, true_implies, true_and]; exact propext jdg.symm
theorem jlO {l : Nat} {Post : AV → Heap → Prop} {st : St} : jb6 l Post .ret st =
  @jco (st.h.get l) ⟨fun r => Post (.bool false) (st.h.put l (.loop { r with state := .done, pend := some .ret }))⟩ := by
 simp only [jb6, ne_eq, reduceCtorEq, not_false_eq_true, false_implies, true_implies, true_and]; exact propext jdg.symm
theorem jhq {t : Nat → AV} : jaL t [] [] = t := rfl
theorem jgf {t : Nat → AV} {p : Nat} {ps : List Nat} {a : AV} {xs : List AV} : jaL t (p :: ps) (a :: xs) = jaL (upd t p a) ps xs := rfl
abbrev loop0 (t : Nat → AV) (nt : Nat) (ps : List Nat) (a b : ACode) (d : Nat) : ALoop := { state := .ready, pend := none, t := t, nt := nt, params := ps, assign := a, body := b, defers := d }
theorem jaa.hide {g : Nat} {args : List AV} {h : Heap} {K : HoldR} (k : ∀ H, H = h → @jaa C g args H K) : @jaa C g args h K := k h rfl
theorem ACalls.hideLoop {g : Nat} {args : List AV} {h : Heap} {d : ABlk} {r : ALoop} {P : AV → Heap → Prop} (k : ∀ R, R = r → ACalls C g args ((h.push d).push (.loop R)) P) : ACalls C g args ((h.push d).push (.loop r)) P := k r rfl
theorem jc4 {R : ALoop} (h1 : R.state = .ready) (h2 : R.pend = none) : ({ state := .ready, pend := none, t := R.t, nt := R.nt, params := R.params, assign := R.assign, body := R.body, defers := R.defers } : ALoop) = R := by
 cases R; cases h1; cases h2; rfl
def je3 (o : Option ABlk) [K : Hold] : Prop :=
 match o with
 | some (.defd true) => K.run
 | _ => False
theorem jjM {p : Prop} : @je3 (some (.defd true)) ⟨p⟩ = p := rfl
theorem jlP {res Post t h i m} : retO res Post .ret ⟨t, h, i :: m⟩ = @je3 (h.get i) ⟨retO res Post .ret ⟨t, h.put i (.defd false), m⟩⟩ := by
 simp only [retO, jaI, je3]
 cases h.get i with
 | none => rfl
 | some b => cases b with
  | defd o => cases o <;> rfl
  | _ => rfl
theorem jjN {res Post t h i m} : retO res Post .normal ⟨t, h, i :: m⟩ = @je3 (h.get i) ⟨retO res Post .normal ⟨t, h.put i (.defd false), m⟩⟩ := by
 simp only [retO, jaI, je3]
 cases h.get i with
 | none => rfl
 | some b => cases b with
  | defd o => cases o <;> rfl
  | _ => rfl
theorem jbC {nt g : Nat} {f c : List AV} {ps : List Nat} {a b : ACode} {Q : Out → St → Prop} {t : Nat → AV} {h : Heap} {m : List Nat} {D : Heap → Prop}
  (hc : ACalls C g (f ++ [.yield (h.size + 1)] ++ c) ((h.push (.defd true)).push (.loop (loop0 t nt ps a b h.size))) (fun _ h' => D h'))
  (hk : ∀ h', D h' → ∃ r, h'.get (h.size + 1) = some (.loop r) ∧ r.state ≠ .busy ∧ Q (r.pend.getD .normal) ⟨t, h'.put (h.size + 1) (.loop { r with state := .exhausted }), h.size :: m⟩) :
  jcA C nt none (.func g f c) ps a b Q ⟨t, h, m⟩ := by
 show ACalls C g _ _ _
 exact hc.mono fun _ h' => hk h'
end
end Go.Ae
