/- The functions of a seat have these bodies. Printed by a program. -/
import Derived.Test.YtbmoggkjijnajaaProg
import Derived.Test.YtbmoggkjijnajaaAeRun
import Derived.Test.YtbmoggkjijnajaaC10B
namespace Go.Proofs.Ytbmoggkjijnajaa
open Go.Ae
noncomputable section
def invL : List (Option Nat) := [none, none, none, some 0, some 1, some 2, some 3, some 4, some 5, some 6, some 7, some 8, some 9, some 10, some 11, some 12, some 13, some 14, some 15, some 16, some 17, some 18, some 19, some 20, some 21, some 22, some 23, some 24, some 25, some 26, some 27, some 28, some 29, some 30, some 31, some 32, some 33, some 34, some 35, some 36, some 37, some 38, some 39, some 40, some 41, some 42, some 43, some 44, some 45, some 46, some 47, some 48, some 49, some 50, some 51, some 52, some 53, some 54, some 55, some 56, some 57, some 58, some 59, some 60, some 61, none, none, none, none, none, none, none, none, none, none, none, none, none, none, none, none, none]
def lkL : List Nat := [3, 4, 5, 6, 7, 8, 9, 10, 11, 12, 13, 14, 15, 16, 17, 18, 19, 20, 21, 22, 23, 24, 25, 26, 27, 28, 29, 30, 31, 32, 33, 34, 35, 36, 37, 38, 39, 40, 41, 42, 43, 44, 45, 46, 47, 48, 49, 50, 51, 52, 53, 54, 55, 56, 57, 58, 59, 60, 61, 62, 63, 64]
theorem invOk : ((List.range invL.length).all fun f => match invL.getD f none with | some g => lkL.getD g 0 == f | none => true) = true := by decide +kernel
noncomputable def ctx : Ctx where
  P := Try.prog
  lk := fun g => lkL.getD g 0
  inv := fun f => invL.getD f none
  hinv := by
    intro f g h
    have hlt : f < invL.length := by
      rcases Nat.lt_or_ge f invL.length with x | x
      · exact x
      · rw [List.getD_eq_getElem?_getD, List.getElem?_eq_none x] at h; cases h
    have := List.all_eq_true.1 invOk f (by simpa using hlt)
    rw [h] at this
    simpa using this
  mixed := by kernel_rfl
theorem L0 : ctx.body 0 = some B0 := by kernel_rfl
theorem L1 : ctx.body 1 = some B1 := by kernel_rfl
theorem L2 : ctx.body 2 = some B2 := by kernel_rfl
theorem L3 : ctx.body 3 = some B3 := by kernel_rfl
theorem L4 : ctx.body 4 = some B4 := by kernel_rfl
theorem L5 : ctx.body 5 = some B5 := by kernel_rfl
theorem L6 : ctx.body 6 = some B6 := by kernel_rfl
theorem L7 : ctx.body 7 = some B7 := by kernel_rfl
theorem L8 : ctx.body 8 = some B8 := by kernel_rfl
theorem L9 : ctx.body 9 = some B9 := by kernel_rfl
theorem L10 : ctx.body 10 = some B10 := by kernel_rfl
theorem L11 : ctx.body 11 = some B11 := by kernel_rfl
theorem L12 : ctx.body 12 = some B12 := by kernel_rfl
theorem L13 : ctx.body 13 = some B13 := by kernel_rfl
theorem L14 : ctx.body 14 = some B14 := by kernel_rfl
theorem L15 : ctx.body 15 = some B15 := by kernel_rfl
theorem L16 : ctx.body 16 = some B16 := by kernel_rfl
theorem L17 : ctx.body 17 = some B17 := by kernel_rfl
theorem L18 : ctx.body 18 = some B18 := by kernel_rfl
theorem L19 : ctx.body 19 = some B19 := by kernel_rfl
theorem L20 : ctx.body 20 = some B20 := by kernel_rfl
theorem L21 : ctx.body 21 = some B21 := by kernel_rfl
theorem L22 : ctx.body 22 = some B22 := by kernel_rfl
theorem L23 : ctx.body 23 = some B23 := by kernel_rfl
theorem L24 : ctx.body 24 = some B24 := by kernel_rfl
theorem L25 : ctx.body 25 = some B25 := by kernel_rfl
theorem L26 : ctx.body 26 = some B26 := by kernel_rfl
theorem L27 : ctx.body 27 = some B27 := by kernel_rfl
theorem L28 : ctx.body 28 = some B28 := by kernel_rfl
theorem L29 : ctx.body 29 = some B29 := by kernel_rfl
theorem L30 : ctx.body 30 = some B30 := by kernel_rfl
theorem L31 : ctx.body 31 = some B31 := by kernel_rfl
theorem L32 : ctx.body 32 = some B32 := by kernel_rfl
theorem L33 : ctx.body 33 = some B33 := by kernel_rfl
theorem L34 : ctx.body 34 = some B34 := by kernel_rfl
theorem L35 : ctx.body 35 = some B35 := by kernel_rfl
theorem L36 : ctx.body 36 = some B36 := by kernel_rfl
theorem L37 : ctx.body 37 = some B37 := by kernel_rfl
theorem L38 : ctx.body 38 = some B38 := by kernel_rfl
theorem L39 : ctx.body 39 = some B39 := by kernel_rfl
theorem L40 : ctx.body 40 = some B40 := by kernel_rfl
theorem L41 : ctx.body 41 = some B41 := by kernel_rfl
theorem L42 : ctx.body 42 = some B42 := by kernel_rfl
theorem L43 : ctx.body 43 = some B43 := by kernel_rfl
theorem L44 : ctx.body 44 = some B44 := by kernel_rfl
theorem L45 : ctx.body 45 = some B45 := by kernel_rfl
theorem L46 : ctx.body 46 = some B46 := by kernel_rfl
theorem L47 : ctx.body 47 = some B47 := by kernel_rfl
theorem L48 : ctx.body 48 = some B48 := by kernel_rfl
theorem L49 : ctx.body 49 = some B49 := by kernel_rfl
theorem L50 : ctx.body 50 = some B50 := by kernel_rfl
theorem L51 : ctx.body 51 = some B51 := by kernel_rfl
theorem L52 : ctx.body 52 = some B52 := by kernel_rfl
theorem L53 : ctx.body 53 = some B53 := by kernel_rfl
theorem L54 : ctx.body 54 = some B54 := by kernel_rfl
theorem L55 : ctx.body 55 = some B55 := by kernel_rfl
theorem L56 : ctx.body 56 = some B56 := by kernel_rfl
theorem L57 : ctx.body 57 = some B57 := by kernel_rfl
theorem L58 : ctx.body 58 = some B58 := by kernel_rfl
theorem L59 : ctx.body 59 = some B59 := by kernel_rfl
theorem L60 : ctx.body 60 = some B60 := by kernel_rfl
theorem L61 : ctx.body 61 = some B61 := by kernel_rfl
def tabL : List (Nat × ABody) := [(0, B0), (1, B1), (2, B2), (3, B3), (4, B4), (5, B5), (6, B6), (7, B7), (8, B8), (9, B9), (10, B10), (11, B11), (12, B12), (13, B13), (14, B14), (15, B15), (16, B16), (17, B17), (18, B18), (19, B19), (20, B20), (21, B21), (22, B22), (23, B23), (24, B24), (25, B25), (26, B26), (27, B27), (28, B28), (29, B29), (30, B30), (31, B31), (32, B32), (33, B33), (34, B34), (35, B35), (36, B36), (37, B37), (38, B38), (39, B39), (40, B40), (41, B41), (42, B42), (43, B43), (44, B44), (45, B45), (46, B46), (47, B47), (48, B48), (49, B49), (50, B50), (51, B51), (52, B52), (53, B53), (54, B54), (55, B55), (56, B56), (57, B57), (58, B58), (59, B59), (60, B60), (61, B61)]
def tab (g : Nat) : Option ABody := (tabL.find? fun p => p.1 == g).map (·.2)
theorem tab_ok : ∀ g b, tab g = some b → ctx.body g = some b := by
  intro g b h
  have hall : ∀ p ∈ tabL, ctx.body p.1 = some p.2 := by
    simp only [tabL, List.forall_mem_cons]
    exact ⟨L0, L1, L2, L3, L4, L5, L6, L7, L8, L9, L10, L11, L12, L13, L14, L15, L16, L17, L18, L19, L20, L21, L22, L23, L24, L25, L26, L27, L28, L29, L30, L31, L32, L33, L34, L35, L36, L37, L38, L39, L40, L41, L42, L43, L44, L45, L46, L47, L48, L49, L50, L51, L52, L53, L54, L55, L56, L57, L58, L59, L60, L61, by simp⟩
  simp only [tab, Option.map_eq_some_iff] at h
  obtain ⟨p, hp, rfl⟩ := h
  have h1 := List.find?_some hp
  have h2 := hall p (List.mem_of_find?_eq_some hp)
  simp only [beq_iff_eq] at h1
  rw [← h1]; exact h2
end
end Go.Proofs.Ytbmoggkjijnajaa
