/- Steps of the functions that a law of this seat reaches, and what they come to, for all arguments of the shapes that are named. -/
import Derived.Test.YtejllbmokmibkaaH2
namespace Go.X
open Go
set_option linter.unusedVariables false
set_option linter.unusedSimpArgs false

theorem allN_congr {f g : Nat → Bool} (h : ∀ i, f i = g i) : ∀ n i, allN f i n = allN g i n
  | 0, i => rfl
  | n + 1, i => by simp [allN, h, allN_congr h n]
theorem allN_true {f : Nat → Bool} (h : ∀ i, f i = true) : ∀ n i, allN f i n = true
  | 0, i => rfl
  | n + 1, i => by simp [allN, h, allN_true h n]

theorem F47_same (a0 a1 a2 a3 : Int) (a4 a5 : Bool) (a6 a7 a8 a9 : Int) : F47_0 a0 a1 a2 a3 a4 a5 a6 a7 a8 a9 a0 a1 a2 a3 a4 a5 a6 a7 a8 a9 = true := by
  simp [F47_0, F73_0, br]
theorem F18_same (d : List (List AC)) : F18 d d = true := by
  unfold F18
  rw [br_false (by simp)]
  refine allN_true (fun i => ?_) _ _
  unfold B18
  simp [F47_same, br]
theorem br_and {c x : Bool} : br c x false = (c && x) := by cases c <;> rfl
theorem br_nand {c y : Bool} : br c false y = (!c && y) := by cases c <;> rfl
theorem br_or {c y : Bool} : br c true y = (c || y) := by cases c <;> rfl
theorem br_nor {c x : Bool} : br c x true = (!c || x) := by cases c <;> rfl
theorem F48_50 (a b : Int) : F48_0 a b = F50_0 a b := by
  simp only [F48_0, F50_0, F52_0, br_and, br_nand, br_or, br_nor]
  rw [Bool.eq_iff_iff]
  simp
  omega
theorem F49_51 (a b c d : Int) : F49_0 a b c d = F51_0 a b c d := by
  simp only [F49_0, F51_0, F48_50, F50_0, F52_0, br_and, br_nand, br_or, br_nor]
  rw [Bool.eq_iff_iff]
  simp
  omega
theorem fuses (d : List (List AC)) : F20 d = F19 d := by
  unfold F20 F19
  congr 1
  refine allN_congr (fun i => ?_) _ _
  unfold B20 B19
  simp only [F48_50, F49_51]

theorem law5_true (d0 : List (List AC)) (hl : d0.length ≤ maxLen) : bodyA V18 (run V18 0 9) 5 0 [AV.one (AC.dat 65 d0)] [] isTrue = true := by
  rw [f5_start]
  have hm : maxLen = 9223372036854775807 := rfl
  have hr : maxRows = 70368744177664 := rfl
  have e : IntKind.wrap .i64 (1048576 - (d0.length : Int)) = 1048576 - (d0.length : Int) := w64 (by omega) (by omega)
  rw [e]
  by_cases h1 : (1048576 : Int) - (d0.length : Int) < 0
  · rw [br_true (by simpa using h1)]; rfl
  · rw [br_false (by simpa using h1), br_false (by simpa using h1)]
    repeat rw [grd_true (by simp; omega)]
    rw [fuses, br_false (by simp)]
    repeat rw [grd_true (by simp; omega)]
    rw [F18_same]
    rfl
end Go.X
