/- Steps of the functions that a law of this seat reaches, and what they come to, for all arguments of the shapes that are named. -/
import Derived.Test.YtejllbmokmibkaaXData
import Derived.Test.YtejllbmokmibkaaProg
namespace Go.X
open Go
set_option linter.unusedVariables false
noncomputable def ann0 : FuncId → Nat → List Nat := annOf [(12, 7, [0, 3, 4]), (15, 4, [0, 3]), (15, 7, [0, 3, 4]), (16, 3, [0, 3, 4]), (17, 5, [3, 12, 13, 14]), (18, 4, [0, 1, 5]), (19, 4, [0, 3]), (20, 4, [8, 9, 10]), (21, 5, [0, 1, 5, 6]), (22, 5, [1, 5, 12, 13, 14]), (23, 4, [0, 1, 5]), (24, 2, [0, 1, 5]), (25, 2, [0, 1, 5]), (26, 2, [0, 1, 5]), (27, 3, [0, 1, 5, 6]), (29, 2, [0, 1, 5]), (37, 7, [1, 2, 4, 5, 7, 8]), (42, 5, [0, 3, 4]), (43, 4, [0, 14]), (43, 8, [0, 4, 5, 14, 23, 24, 25]), (45, 5, [0, 3, 9, 10]), (54, 3, [1, 5, 9, 10, 11]), (55, 5, [0, 1, 5]), (56, 3, [0, 3, 4]), (57, 4, [2, 10, 11, 12]), (61, 4, [0, 1, 5]), (62, 2, [0, 1, 5]), (63, 2, [0, 1, 5]), (64, 4, [1, 3]), (64, 9, [1, 3, 4]), (68, 3, [0, 3, 4]), (69, 3, [0, 3, 4, 5]), (70, 3, [3, 7, 8, 9]), (71, 5, [1, 5, 6, 21, 22, 23]), (77, 5, [1, 3, 18, 19, 20]), (79, 4, [0, 3]), (81, 2, [0, 1, 5]), (83, 5, [0, 1, 5, 6, 7])]
noncomputable def E0 : Env := ⟨Go.Proofs.Try.prog, ann0, fun _ => none⟩
theorem hm : Go.Proofs.Try.prog.follows .mixedOrders = true := by kernel_rfl
theorem br_tt {α : Type} {x y : α} : br true x y = x := rfl
theorem br_ff {α : Type} {x y : α} : br false x y = y := rfl
theorem brK {c x y z : Bool} (h1 : c = true → x = z) (h2 : c = false → y = z) : br c x y = z := by cases c; exact h2 rfl; exact h1 rfl

theorem f72_start (a0 : Int) (a1 : Int) (k : Nat) (K : Kont) : bodyA E0 (run E0 k 9) 72 k [AV.agg [AC.int .i64 a0, AC.int .i64 a1]] [] K =
  K [AV.agg [AC.int .i64 a0, AC.int .i64 a1]] [Blk.box [AC.int .i64 a0, AC.int .i64 a1], Blk.box [AC.int .i64 a0, AC.int .i64 a1], Blk.box [AC.int .i64 a0, AC.int .i64 a1]] := by kernel_rfl
theorem f72_go (a0 : Int) (a1 : Int) (K : Kont) : bodyA E0 (run E0 0 9) 72 0 [AV.agg [AC.int .i64 a0, AC.int .i64 a1]] [] (clean K) = K [AV.agg [AC.int .i64 a0, AC.int .i64 a1]] [] := by
  refine (f72_start a0 a1 0 (clean K)).trans ?_
  rfl
def go72 : List AV → List Blk → Kont → Bool
  | [AV.agg [AC.int .i64 a0, AC.int .i64 a1]], B, K => K [AV.agg [AC.int .i64 a0, AC.int .i64 a1]] B
  | _, _, _ => false
noncomputable def V72 : Env := E0.add 72 ⟨true, go72⟩
theorem V72_ok : EnvOk V72 := by
  refine (EnvOk.base _ _).put hm 72 go72 (fun args K h => ⟨0, 9, ?_⟩)
  unfold go72 at h
  split at h
  · rename_i a0 a1
    exact (f72_go a0 a1 _).trans h
  · cases h
theorem f46_start (a0 : Int) (a1 : Int) (a2 : Int) (a3 : Int) (a4 : Bool) (a5 : Bool) (a6 : Int) (a7 : Int) (a8 : Int) (a9 : Int) (k : Nat) (K : Kont) : bodyA V72 (run V72 k 9) 46 k [AV.agg [AC.int .i64 a0, AC.int .i64 a1, AC.int .i64 a2, AC.int .i64 a3, AC.bool a4, AC.bool a5, AC.int .i64 a6, AC.int .i64 a7, AC.int .i64 a8, AC.int .i64 a9]] [] K =
  K [AV.agg [AC.int .i64 a0, AC.int .i64 a1, AC.int .i64 a2, AC.int .i64 a3, AC.bool a4, AC.bool a5, AC.int .i64 a6, AC.int .i64 a7, AC.int .i64 a8, AC.int .i64 a9]] [Blk.box [AC.int .i64 a0, AC.int .i64 a1, AC.int .i64 a2, AC.int .i64 a3, AC.bool a4, AC.bool a5, AC.int .i64 a6, AC.int .i64 a7, AC.int .i64 a8, AC.int .i64 a9], Blk.box [AC.int .i64 a0, AC.int .i64 a1, AC.int .i64 a2, AC.int .i64 a3, AC.bool a4, AC.bool a5, AC.int .i64 a6, AC.int .i64 a7, AC.int .i64 a8, AC.int .i64 a9], Blk.box [AC.int .i64 a0, AC.int .i64 a1, AC.int .i64 a2, AC.int .i64 a3, AC.bool a4, AC.bool a5, AC.int .i64 a6, AC.int .i64 a7, AC.int .i64 a8, AC.int .i64 a9]] := by kernel_rfl
theorem f46_go (a0 : Int) (a1 : Int) (a2 : Int) (a3 : Int) (a4 : Bool) (a5 : Bool) (a6 : Int) (a7 : Int) (a8 : Int) (a9 : Int) (K : Kont) : bodyA V72 (run V72 0 9) 46 0 [AV.agg [AC.int .i64 a0, AC.int .i64 a1, AC.int .i64 a2, AC.int .i64 a3, AC.bool a4, AC.bool a5, AC.int .i64 a6, AC.int .i64 a7, AC.int .i64 a8, AC.int .i64 a9]] [] (clean K) = K [AV.agg [AC.int .i64 a0, AC.int .i64 a1, AC.int .i64 a2, AC.int .i64 a3, AC.bool a4, AC.bool a5, AC.int .i64 a6, AC.int .i64 a7, AC.int .i64 a8, AC.int .i64 a9]] [] := by
  refine (f46_start a0 a1 a2 a3 a4 a5 a6 a7 a8 a9 0 (clean K)).trans ?_
  rfl
def go46 : List AV → List Blk → Kont → Bool
  | [AV.agg [AC.int .i64 a0, AC.int .i64 a1, AC.int .i64 a2, AC.int .i64 a3, AC.bool a4, AC.bool a5, AC.int .i64 a6, AC.int .i64 a7, AC.int .i64 a8, AC.int .i64 a9]], B, K => K [AV.agg [AC.int .i64 a0, AC.int .i64 a1, AC.int .i64 a2, AC.int .i64 a3, AC.bool a4, AC.bool a5, AC.int .i64 a6, AC.int .i64 a7, AC.int .i64 a8, AC.int .i64 a9]] B
  | _, _, _ => false
noncomputable def V46 : Env := V72.add 46 ⟨true, go46⟩
theorem V46_ok : EnvOk V46 := by
  refine V72_ok.put hm 46 go46 (fun args K h => ⟨0, 9, ?_⟩)
  unfold go46 at h
  split at h
  · rename_i a0 a1 a2 a3 a4 a5 a6 a7 a8 a9
    exact (f46_go a0 a1 a2 a3 a4 a5 a6 a7 a8 a9 _).trans h
  · cases h
theorem f73_start (a0 : Int) (a1 : Int) (b0 : Int) (b1 : Int) (k : Nat) (K : Kont) : bodyA V46 (run V46 k 9) 73 k [AV.agg [AC.int .i64 a0, AC.int .i64 a1], AV.agg [AC.int .i64 b0, AC.int .i64 b1]] [] K =
  br (((a0 : Int) != b0))
    (K [AV.one (AC.bool false)] [Blk.box [AC.int .i64 a0, AC.int .i64 a1], Blk.box [AC.int .i64 b0, AC.int .i64 b1]])
    (br (((a1 : Int) != b1))
      (K [AV.one (AC.bool false)] [Blk.box [AC.int .i64 a0, AC.int .i64 a1], Blk.box [AC.int .i64 b0, AC.int .i64 b1]])
      (K [AV.one (AC.bool true)] [Blk.box [AC.int .i64 a0, AC.int .i64 a1], Blk.box [AC.int .i64 b0, AC.int .i64 b1]])) := by kernel_rfl
def F73_0 (a0 : Int) (a1 : Int) (b0 : Int) (b1 : Int) : Bool := (br (((a0 : Int) != b0)) false (br (((a1 : Int) != b1)) false true))
theorem f73_go (a0 : Int) (a1 : Int) (b0 : Int) (b1 : Int) (K : Kont) : bodyA V46 (run V46 0 9) 73 0 [AV.agg [AC.int .i64 a0, AC.int .i64 a1], AV.agg [AC.int .i64 b0, AC.int .i64 b1]] [] (clean K) = K [AV.one (AC.bool (F73_0 a0 a1 b0 b1))] [] := by
  refine (f73_start a0 a1 b0 b1 0 (clean K)).trans ?_
  repeat' (with_reducible refine brK (fun _ => ?_) (fun _ => ?_))
  all_goals first | (exfalso; simp_all; done) | (simp only [F73_0, br_tt, br_ff, *]; first | rfl | done)
def go73 : List AV → List Blk → Kont → Bool
  | [AV.agg [AC.int .i64 a0, AC.int .i64 a1], AV.agg [AC.int .i64 b0, AC.int .i64 b1]], B, K => K [AV.one (AC.bool (F73_0 a0 a1 b0 b1))] B
  | _, _, _ => false
noncomputable def V73 : Env := V46.add 73 ⟨true, go73⟩
theorem V73_ok : EnvOk V73 := by
  refine V46_ok.put hm 73 go73 (fun args K h => ⟨0, 9, ?_⟩)
  unfold go73 at h
  split at h
  · rename_i a0 a1 b0 b1
    exact (f73_go a0 a1 b0 b1 _).trans h
  · cases h
theorem f47_start (a0 : Int) (a1 : Int) (a2 : Int) (a3 : Int) (a4 : Bool) (a5 : Bool) (a6 : Int) (a7 : Int) (a8 : Int) (a9 : Int) (b0 : Int) (b1 : Int) (b2 : Int) (b3 : Int) (b4 : Bool) (b5 : Bool) (b6 : Int) (b7 : Int) (b8 : Int) (b9 : Int) (k : Nat) (K : Kont) : bodyA V73 (run V73 k 9) 47 k [AV.agg [AC.int .i64 a0, AC.int .i64 a1, AC.int .i64 a2, AC.int .i64 a3, AC.bool a4, AC.bool a5, AC.int .i64 a6, AC.int .i64 a7, AC.int .i64 a8, AC.int .i64 a9], AV.agg [AC.int .i64 b0, AC.int .i64 b1, AC.int .i64 b2, AC.int .i64 b3, AC.bool b4, AC.bool b5, AC.int .i64 b6, AC.int .i64 b7, AC.int .i64 b8, AC.int .i64 b9]] [] K =
  br (((a0 : Int) != b0))
    (K [AV.one (AC.bool false)] [Blk.box [AC.int .i64 a0, AC.int .i64 a1, AC.int .i64 a2, AC.int .i64 a3, AC.bool a4, AC.bool a5, AC.int .i64 a6, AC.int .i64 a7, AC.int .i64 a8, AC.int .i64 a9], Blk.box [AC.int .i64 b0, AC.int .i64 b1, AC.int .i64 b2, AC.int .i64 b3, AC.bool b4, AC.bool b5, AC.int .i64 b6, AC.int .i64 b7, AC.int .i64 b8, AC.int .i64 b9]])
    (br (((a1 : Int) != b1))
      (K [AV.one (AC.bool false)] [Blk.box [AC.int .i64 a0, AC.int .i64 a1, AC.int .i64 a2, AC.int .i64 a3, AC.bool a4, AC.bool a5, AC.int .i64 a6, AC.int .i64 a7, AC.int .i64 a8, AC.int .i64 a9], Blk.box [AC.int .i64 b0, AC.int .i64 b1, AC.int .i64 b2, AC.int .i64 b3, AC.bool b4, AC.bool b5, AC.int .i64 b6, AC.int .i64 b7, AC.int .i64 b8, AC.int .i64 b9]])
      (br (((a2 : Int) != b2))
        (K [AV.one (AC.bool false)] [Blk.box [AC.int .i64 a0, AC.int .i64 a1, AC.int .i64 a2, AC.int .i64 a3, AC.bool a4, AC.bool a5, AC.int .i64 a6, AC.int .i64 a7, AC.int .i64 a8, AC.int .i64 a9], Blk.box [AC.int .i64 b0, AC.int .i64 b1, AC.int .i64 b2, AC.int .i64 b3, AC.bool b4, AC.bool b5, AC.int .i64 b6, AC.int .i64 b7, AC.int .i64 b8, AC.int .i64 b9]])
        (br (((a3 : Int) != b3))
          (K [AV.one (AC.bool false)] [Blk.box [AC.int .i64 a0, AC.int .i64 a1, AC.int .i64 a2, AC.int .i64 a3, AC.bool a4, AC.bool a5, AC.int .i64 a6, AC.int .i64 a7, AC.int .i64 a8, AC.int .i64 a9], Blk.box [AC.int .i64 b0, AC.int .i64 b1, AC.int .i64 b2, AC.int .i64 b3, AC.bool b4, AC.bool b5, AC.int .i64 b6, AC.int .i64 b7, AC.int .i64 b8, AC.int .i64 b9]])
          (br ((!(a4 == b4)))
            (K [AV.one (AC.bool false)] [Blk.box [AC.int .i64 a0, AC.int .i64 a1, AC.int .i64 a2, AC.int .i64 a3, AC.bool a4, AC.bool a5, AC.int .i64 a6, AC.int .i64 a7, AC.int .i64 a8, AC.int .i64 a9], Blk.box [AC.int .i64 b0, AC.int .i64 b1, AC.int .i64 b2, AC.int .i64 b3, AC.bool b4, AC.bool b5, AC.int .i64 b6, AC.int .i64 b7, AC.int .i64 b8, AC.int .i64 b9]])
            (br ((!(a5 == b5)))
              (K [AV.one (AC.bool false)] [Blk.box [AC.int .i64 a0, AC.int .i64 a1, AC.int .i64 a2, AC.int .i64 a3, AC.bool a4, AC.bool a5, AC.int .i64 a6, AC.int .i64 a7, AC.int .i64 a8, AC.int .i64 a9], Blk.box [AC.int .i64 b0, AC.int .i64 b1, AC.int .i64 b2, AC.int .i64 b3, AC.bool b4, AC.bool b5, AC.int .i64 b6, AC.int .i64 b7, AC.int .i64 b8, AC.int .i64 b9]])
              (br ((!(F73_0 a6 a7 b6 b7)))
                (K [AV.one (AC.bool false)] [Blk.box [AC.int .i64 a0, AC.int .i64 a1, AC.int .i64 a2, AC.int .i64 a3, AC.bool a4, AC.bool a5, AC.int .i64 a6, AC.int .i64 a7, AC.int .i64 a8, AC.int .i64 a9], Blk.box [AC.int .i64 b0, AC.int .i64 b1, AC.int .i64 b2, AC.int .i64 b3, AC.bool b4, AC.bool b5, AC.int .i64 b6, AC.int .i64 b7, AC.int .i64 b8, AC.int .i64 b9]])
                (br ((!(F73_0 a8 a9 b8 b9)))
                  (K [AV.one (AC.bool false)] [Blk.box [AC.int .i64 a0, AC.int .i64 a1, AC.int .i64 a2, AC.int .i64 a3, AC.bool a4, AC.bool a5, AC.int .i64 a6, AC.int .i64 a7, AC.int .i64 a8, AC.int .i64 a9], Blk.box [AC.int .i64 b0, AC.int .i64 b1, AC.int .i64 b2, AC.int .i64 b3, AC.bool b4, AC.bool b5, AC.int .i64 b6, AC.int .i64 b7, AC.int .i64 b8, AC.int .i64 b9]])
                  (K [AV.one (AC.bool true)] [Blk.box [AC.int .i64 a0, AC.int .i64 a1, AC.int .i64 a2, AC.int .i64 a3, AC.bool a4, AC.bool a5, AC.int .i64 a6, AC.int .i64 a7, AC.int .i64 a8, AC.int .i64 a9], Blk.box [AC.int .i64 b0, AC.int .i64 b1, AC.int .i64 b2, AC.int .i64 b3, AC.bool b4, AC.bool b5, AC.int .i64 b6, AC.int .i64 b7, AC.int .i64 b8, AC.int .i64 b9]])))))))) := by kernel_rfl
def F47_0 (a0 : Int) (a1 : Int) (a2 : Int) (a3 : Int) (a4 : Bool) (a5 : Bool) (a6 : Int) (a7 : Int) (a8 : Int) (a9 : Int) (b0 : Int) (b1 : Int) (b2 : Int) (b3 : Int) (b4 : Bool) (b5 : Bool) (b6 : Int) (b7 : Int) (b8 : Int) (b9 : Int) : Bool := (br (((a0 : Int) != b0)) false (br (((a1 : Int) != b1)) false (br (((a2 : Int) != b2)) false (br (((a3 : Int) != b3)) false (br ((!(a4 == b4))) false (br ((!(a5 == b5))) false (br ((!(F73_0 a6 a7 b6 b7))) false (br ((!(F73_0 a8 a9 b8 b9))) false true))))))))
theorem f47_go (a0 : Int) (a1 : Int) (a2 : Int) (a3 : Int) (a4 : Bool) (a5 : Bool) (a6 : Int) (a7 : Int) (a8 : Int) (a9 : Int) (b0 : Int) (b1 : Int) (b2 : Int) (b3 : Int) (b4 : Bool) (b5 : Bool) (b6 : Int) (b7 : Int) (b8 : Int) (b9 : Int) (K : Kont) : bodyA V73 (run V73 0 9) 47 0 [AV.agg [AC.int .i64 a0, AC.int .i64 a1, AC.int .i64 a2, AC.int .i64 a3, AC.bool a4, AC.bool a5, AC.int .i64 a6, AC.int .i64 a7, AC.int .i64 a8, AC.int .i64 a9], AV.agg [AC.int .i64 b0, AC.int .i64 b1, AC.int .i64 b2, AC.int .i64 b3, AC.bool b4, AC.bool b5, AC.int .i64 b6, AC.int .i64 b7, AC.int .i64 b8, AC.int .i64 b9]] [] (clean K) = K [AV.one (AC.bool (F47_0 a0 a1 a2 a3 a4 a5 a6 a7 a8 a9 b0 b1 b2 b3 b4 b5 b6 b7 b8 b9))] [] := by
  refine (f47_start a0 a1 a2 a3 a4 a5 a6 a7 a8 a9 b0 b1 b2 b3 b4 b5 b6 b7 b8 b9 0 (clean K)).trans ?_
  repeat' (with_reducible refine brK (fun _ => ?_) (fun _ => ?_))
  all_goals first | (exfalso; simp_all; done) | (simp only [F47_0, br_tt, br_ff, *]; first | rfl | done)
def go47 : List AV → List Blk → Kont → Bool
  | [AV.agg [AC.int .i64 a0, AC.int .i64 a1, AC.int .i64 a2, AC.int .i64 a3, AC.bool a4, AC.bool a5, AC.int .i64 a6, AC.int .i64 a7, AC.int .i64 a8, AC.int .i64 a9], AV.agg [AC.int .i64 b0, AC.int .i64 b1, AC.int .i64 b2, AC.int .i64 b3, AC.bool b4, AC.bool b5, AC.int .i64 b6, AC.int .i64 b7, AC.int .i64 b8, AC.int .i64 b9]], B, K => K [AV.one (AC.bool (F47_0 a0 a1 a2 a3 a4 a5 a6 a7 a8 a9 b0 b1 b2 b3 b4 b5 b6 b7 b8 b9))] B
  | _, _, _ => false
noncomputable def V47 : Env := V73.add 47 ⟨true, go47⟩
theorem V47_ok : EnvOk V47 := by
  refine V73_ok.put hm 47 go47 (fun args K h => ⟨0, 9, ?_⟩)
  unfold go47 at h
  split at h
  · rename_i a0 a1 a2 a3 a4 a5 a6 a7 a8 a9 b0 b1 b2 b3 b4 b5 b6 b7 b8 b9
    exact (f47_go a0 a1 a2 a3 a4 a5 a6 a7 a8 a9 b0 b1 b2 b3 b4 b5 b6 b7 b8 b9 _).trans h
  · cases h
theorem f52_start (a0 : Int) (b0 : Int) (c0 : Int) (k : Nat) (K : Kont) : bodyA V47 (run V47 k 9) 52 k [AV.one (AC.int .i64 a0), AV.one (AC.int .i64 b0), AV.one (AC.int .i64 c0)] [] K =
  br ((decide ((b0 : Int) ≤ a0)))
    (K [AV.one (AC.bool (decide ((a0 : Int) ≤ c0)))] [])
    (K [AV.one (AC.bool false)] []) := by kernel_rfl
def F52_0 (a0 : Int) (b0 : Int) (c0 : Int) : Bool := (br ((decide ((b0 : Int) ≤ a0))) (decide ((a0 : Int) ≤ c0)) false)
theorem f52_go (a0 : Int) (b0 : Int) (c0 : Int) (K : Kont) : bodyA V47 (run V47 0 9) 52 0 [AV.one (AC.int .i64 a0), AV.one (AC.int .i64 b0), AV.one (AC.int .i64 c0)] [] (clean K) = K [AV.one (AC.bool (F52_0 a0 b0 c0))] [] := by
  refine (f52_start a0 b0 c0 0 (clean K)).trans ?_
  repeat' (with_reducible refine brK (fun _ => ?_) (fun _ => ?_))
  all_goals first | (exfalso; simp_all; done) | (simp only [F52_0, br_tt, br_ff, *]; first | rfl | done)
def go52 : List AV → List Blk → Kont → Bool
  | [AV.one (AC.int .i64 a0), AV.one (AC.int .i64 b0), AV.one (AC.int .i64 c0)], B, K => K [AV.one (AC.bool (F52_0 a0 b0 c0))] B
  | _, _, _ => false
noncomputable def V52 : Env := V47.add 52 ⟨true, go52⟩
theorem V52_ok : EnvOk V52 := by
  refine V47_ok.put hm 52 go52 (fun args K h => ⟨0, 9, ?_⟩)
  unfold go52 at h
  split at h
  · rename_i a0 b0 c0
    exact (f52_go a0 b0 c0 _).trans h
  · cases h
theorem f53_start (a0 : Int) (b0 : Int) (c0 : Int) (k : Nat) (K : Kont) : bodyA V52 (run V52 k 9) 53 k [AV.one (AC.int .i64 a0), AV.one (AC.int .i64 b0), AV.one (AC.int .i64 c0)] [] K =
  br ((decide ((b0 : Int) ≤ a0)))
    (K [AV.one (AC.bool (decide ((a0 : Int) ≤ c0)))] [])
    (K [AV.one (AC.bool false)] []) := by kernel_rfl
def F53_0 (a0 : Int) (b0 : Int) (c0 : Int) : Bool := (br ((decide ((b0 : Int) ≤ a0))) (decide ((a0 : Int) ≤ c0)) false)
theorem f53_go (a0 : Int) (b0 : Int) (c0 : Int) (K : Kont) : bodyA V52 (run V52 0 9) 53 0 [AV.one (AC.int .i64 a0), AV.one (AC.int .i64 b0), AV.one (AC.int .i64 c0)] [] (clean K) = K [AV.one (AC.bool (F53_0 a0 b0 c0))] [] := by
  refine (f53_start a0 b0 c0 0 (clean K)).trans ?_
  repeat' (with_reducible refine brK (fun _ => ?_) (fun _ => ?_))
  all_goals first | (exfalso; simp_all; done) | (simp only [F53_0, br_tt, br_ff, *]; first | rfl | done)
def go53 : List AV → List Blk → Kont → Bool
  | [AV.one (AC.int .i64 a0), AV.one (AC.int .i64 b0), AV.one (AC.int .i64 c0)], B, K => K [AV.one (AC.bool (F53_0 a0 b0 c0))] B
  | _, _, _ => false
noncomputable def V53 : Env := V52.add 53 ⟨true, go53⟩
theorem V53_ok : EnvOk V53 := by
  refine V52_ok.put hm 53 go53 (fun args K h => ⟨0, 9, ?_⟩)
  unfold go53 at h
  split at h
  · rename_i a0 b0 c0
    exact (f53_go a0 b0 c0 _).trans h
  · cases h
theorem f48_start (a0 : Int) (a1 : Int) (k : Nat) (K : Kont) : bodyA V53 (run V53 k 9) 48 k [AV.agg [AC.int .i64 a0, AC.int .i64 a1]] [] K =
  br ((decide ((a0 : Int) ≤ a1)))
    (br ((F52_0 a0 (-1000000000000) 1000000000000))
      (K [AV.one (AC.bool (F52_0 a1 (-1000000000000) 1000000000000))] [Blk.box [AC.int .i64 a0, AC.int .i64 a1]])
      (K [AV.one (AC.bool false)] [Blk.box [AC.int .i64 a0, AC.int .i64 a1]]))
    (K [AV.one (AC.bool false)] [Blk.box [AC.int .i64 a0, AC.int .i64 a1]]) := by kernel_rfl
def F48_0 (a0 : Int) (a1 : Int) : Bool := (br ((decide ((a0 : Int) ≤ a1))) (br ((F52_0 a0 (-1000000000000) 1000000000000)) (F52_0 a1 (-1000000000000) 1000000000000) false) false)
theorem f48_go (a0 : Int) (a1 : Int) (K : Kont) : bodyA V53 (run V53 0 9) 48 0 [AV.agg [AC.int .i64 a0, AC.int .i64 a1]] [] (clean K) = K [AV.one (AC.bool (F48_0 a0 a1))] [] := by
  refine (f48_start a0 a1 0 (clean K)).trans ?_
  repeat' (with_reducible refine brK (fun _ => ?_) (fun _ => ?_))
  all_goals first | (exfalso; simp_all; done) | (simp only [F48_0, br_tt, br_ff, *]; first | rfl | done)
def go48 : List AV → List Blk → Kont → Bool
  | [AV.agg [AC.int .i64 a0, AC.int .i64 a1]], B, K => K [AV.one (AC.bool (F48_0 a0 a1))] B
  | _, _, _ => false
noncomputable def V48 : Env := V53.add 48 ⟨true, go48⟩
theorem V48_ok : EnvOk V48 := by
  refine V53_ok.put hm 48 go48 (fun args K h => ⟨0, 9, ?_⟩)
  unfold go48 at h
  split at h
  · rename_i a0 a1
    exact (f48_go a0 a1 _).trans h
  · cases h
theorem f50_start (a0 : Int) (a1 : Int) (k : Nat) (K : Kont) : bodyA V48 (run V48 k 9) 50 k [AV.agg [AC.int .i64 a0, AC.int .i64 a1]] [] K =
  br ((decide (((-1000000000000) : Int) ≤ a0)))
    (br ((decide ((a0 : Int) ≤ a1)))
      (K [AV.one (AC.bool (decide ((a1 : Int) ≤ 1000000000000)))] [Blk.box [AC.int .i64 a0, AC.int .i64 a1]])
      (K [AV.one (AC.bool false)] [Blk.box [AC.int .i64 a0, AC.int .i64 a1]]))
    (K [AV.one (AC.bool false)] [Blk.box [AC.int .i64 a0, AC.int .i64 a1]]) := by kernel_rfl
def F50_0 (a0 : Int) (a1 : Int) : Bool := (br ((decide (((-1000000000000) : Int) ≤ a0))) (br ((decide ((a0 : Int) ≤ a1))) (decide ((a1 : Int) ≤ 1000000000000)) false) false)
theorem f50_go (a0 : Int) (a1 : Int) (K : Kont) : bodyA V48 (run V48 0 9) 50 0 [AV.agg [AC.int .i64 a0, AC.int .i64 a1]] [] (clean K) = K [AV.one (AC.bool (F50_0 a0 a1))] [] := by
  refine (f50_start a0 a1 0 (clean K)).trans ?_
  repeat' (with_reducible refine brK (fun _ => ?_) (fun _ => ?_))
  all_goals first | (exfalso; simp_all; done) | (simp only [F50_0, br_tt, br_ff, *]; first | rfl | done)
def go50 : List AV → List Blk → Kont → Bool
  | [AV.agg [AC.int .i64 a0, AC.int .i64 a1]], B, K => K [AV.one (AC.bool (F50_0 a0 a1))] B
  | _, _, _ => false
noncomputable def V50 : Env := V48.add 50 ⟨true, go50⟩
theorem V50_ok : EnvOk V50 := by
  refine V48_ok.put hm 50 go50 (fun args K h => ⟨0, 9, ?_⟩)
  unfold go50 at h
  split at h
  · rename_i a0 a1
    exact (f50_go a0 a1 _).trans h
  · cases h
theorem f49_start (a0 : Int) (a1 : Int) (b0 : Int) (b1 : Int) (k : Nat) (K : Kont) : bodyA V50 (run V50 k 9) 49 k [AV.agg [AC.int .i64 a0, AC.int .i64 a1], AV.agg [AC.int .i64 b0, AC.int .i64 b1]] [] K =
  br ((F48_0 a0 a1))
    (br ((F48_0 b0 b1))
      (br ((F52_0 a0 b0 b1))
        (br ((F48_0 b0 b1))
          (K [AV.one (AC.bool (F52_0 a1 b0 b1))] [Blk.box [AC.int .i64 a0, AC.int .i64 a1], Blk.box [AC.int .i64 b0, AC.int .i64 b1], Blk.box [AC.int .i64 b0, AC.int .i64 b1], Blk.box [AC.int .i64 b0, AC.int .i64 b1]])
          (K [AV.one (AC.bool false)] [Blk.box [AC.int .i64 a0, AC.int .i64 a1], Blk.box [AC.int .i64 b0, AC.int .i64 b1], Blk.box [AC.int .i64 b0, AC.int .i64 b1], Blk.box [AC.int .i64 b0, AC.int .i64 b1]]))
        (K [AV.one (AC.bool false)] [Blk.box [AC.int .i64 a0, AC.int .i64 a1], Blk.box [AC.int .i64 b0, AC.int .i64 b1], Blk.box [AC.int .i64 b0, AC.int .i64 b1]]))
      (K [AV.one (AC.bool false)] [Blk.box [AC.int .i64 a0, AC.int .i64 a1], Blk.box [AC.int .i64 b0, AC.int .i64 b1], Blk.box [AC.int .i64 b0, AC.int .i64 b1]]))
    (K [AV.one (AC.bool false)] [Blk.box [AC.int .i64 a0, AC.int .i64 a1], Blk.box [AC.int .i64 b0, AC.int .i64 b1]]) := by kernel_rfl
def F49_0 (a0 : Int) (a1 : Int) (b0 : Int) (b1 : Int) : Bool := (br ((F48_0 a0 a1)) (br ((F48_0 b0 b1)) (br ((F52_0 a0 b0 b1)) (br ((F48_0 b0 b1)) (F52_0 a1 b0 b1) false) false) false) false)
theorem f49_go (a0 : Int) (a1 : Int) (b0 : Int) (b1 : Int) (K : Kont) : bodyA V50 (run V50 0 9) 49 0 [AV.agg [AC.int .i64 a0, AC.int .i64 a1], AV.agg [AC.int .i64 b0, AC.int .i64 b1]] [] (clean K) = K [AV.one (AC.bool (F49_0 a0 a1 b0 b1))] [] := by
  refine (f49_start a0 a1 b0 b1 0 (clean K)).trans ?_
  repeat' (with_reducible refine brK (fun _ => ?_) (fun _ => ?_))
  all_goals first | (exfalso; simp_all; done) | (simp only [F49_0, br_tt, br_ff, *]; first | rfl | done)
def go49 : List AV → List Blk → Kont → Bool
  | [AV.agg [AC.int .i64 a0, AC.int .i64 a1], AV.agg [AC.int .i64 b0, AC.int .i64 b1]], B, K => K [AV.one (AC.bool (F49_0 a0 a1 b0 b1))] B
  | _, _, _ => false
noncomputable def V49 : Env := V50.add 49 ⟨true, go49⟩
theorem V49_ok : EnvOk V49 := by
  refine V50_ok.put hm 49 go49 (fun args K h => ⟨0, 9, ?_⟩)
  unfold go49 at h
  split at h
  · rename_i a0 a1 b0 b1
    exact (f49_go a0 a1 b0 b1 _).trans h
  · cases h
theorem f51_start (a0 : Int) (a1 : Int) (b0 : Int) (b1 : Int) (k : Nat) (K : Kont) : bodyA V49 (run V49 k 9) 51 k [AV.agg [AC.int .i64 a0, AC.int .i64 a1], AV.agg [AC.int .i64 b0, AC.int .i64 b1]] [] K =
  br ((F50_0 a0 a1))
    (br ((F50_0 b0 b1))
      (br ((decide ((b0 : Int) ≤ a0)))
        (K [AV.one (AC.bool (decide ((a1 : Int) ≤ b1)))] [Blk.box [AC.int .i64 a0, AC.int .i64 a1], Blk.box [AC.int .i64 b0, AC.int .i64 b1]])
        (K [AV.one (AC.bool false)] [Blk.box [AC.int .i64 a0, AC.int .i64 a1], Blk.box [AC.int .i64 b0, AC.int .i64 b1]]))
      (K [AV.one (AC.bool false)] [Blk.box [AC.int .i64 a0, AC.int .i64 a1], Blk.box [AC.int .i64 b0, AC.int .i64 b1]]))
    (K [AV.one (AC.bool false)] [Blk.box [AC.int .i64 a0, AC.int .i64 a1], Blk.box [AC.int .i64 b0, AC.int .i64 b1]]) := by kernel_rfl
def F51_0 (a0 : Int) (a1 : Int) (b0 : Int) (b1 : Int) : Bool := (br ((F50_0 a0 a1)) (br ((F50_0 b0 b1)) (br ((decide ((b0 : Int) ≤ a0))) (decide ((a1 : Int) ≤ b1)) false) false) false)
theorem f51_go (a0 : Int) (a1 : Int) (b0 : Int) (b1 : Int) (K : Kont) : bodyA V49 (run V49 0 9) 51 0 [AV.agg [AC.int .i64 a0, AC.int .i64 a1], AV.agg [AC.int .i64 b0, AC.int .i64 b1]] [] (clean K) = K [AV.one (AC.bool (F51_0 a0 a1 b0 b1))] [] := by
  refine (f51_start a0 a1 b0 b1 0 (clean K)).trans ?_
  repeat' (with_reducible refine brK (fun _ => ?_) (fun _ => ?_))
  all_goals first | (exfalso; simp_all; done) | (simp only [F51_0, br_tt, br_ff, *]; first | rfl | done)
def go51 : List AV → List Blk → Kont → Bool
  | [AV.agg [AC.int .i64 a0, AC.int .i64 a1], AV.agg [AC.int .i64 b0, AC.int .i64 b1]], B, K => K [AV.one (AC.bool (F51_0 a0 a1 b0 b1))] B
  | _, _, _ => false
noncomputable def V51 : Env := V49.add 51 ⟨true, go51⟩
theorem V51_ok : EnvOk V51 := by
  refine V49_ok.put hm 51 go51 (fun args K h => ⟨0, 9, ?_⟩)
  unfold go51 at h
  split at h
  · rename_i a0 a1 b0 b1
    exact (f51_go a0 a1 b0 b1 _).trans h
  · cases h
end Go.X
