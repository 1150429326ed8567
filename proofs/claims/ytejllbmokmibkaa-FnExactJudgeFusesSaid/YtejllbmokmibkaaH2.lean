/- Steps of the functions that a law of this seat reaches, and what they come to, for all arguments of the shapes that are named. -/
import Derived.Test.YtejllbmokmibkaaH1
namespace Go.X
open Go
set_option linter.unusedVariables false
set_option linter.unusedSimpArgs false
theorem br_true {α : Type} {c : Bool} {x y : α} (h : c = true) : br c x y = x := by subst h; rfl
theorem br_false {α : Type} {c : Bool} {x y : α} (h : c = false) : br c x y = y := by subst h; rfl
theorem grd_true {c x : Bool} (h : c = true) : grd c x = x := by subst h; rfl
theorem w64 {n : Int} (h1 : -9223372036854775808 ≤ n) (h2 : n ≤ 9223372036854775807) : IntKind.wrap .i64 n = n := by
  simp [IntKind.wrap, IntKind.bits, IntKind.signed]; omega
def allN (f : Nat → Bool) : Nat → Nat → Bool
  | _, 0 => true
  | i, n + 1 => f i && allN f (i + 1) n
theorem fill_set {β : Type} (N : List AC → β) (z : β) (d : List (List AC)) (i : Nat) (h : i < d.length) : ((d.take i).map N ++ List.replicate (d.length - i) z).set i (N (d.getD i [])) = (d.take (i + 1)).map N ++ List.replicate (d.length - (i + 1)) z := by
  rw [List.set_append_right _ _ (by simp; omega), show d.length - i = (d.length - (i + 1)) + 1 by omega, List.replicate_succ, List.length_map, List.length_take, show i - min i d.length = 0 by omega, List.set_cons_zero, List.take_add_one, List.map_append, List.append_assoc, List.getElem?_eq_getElem h, List.getD_eq_getElem?_getD, List.getElem?_eq_getElem h]
  rfl

noncomputable def L19_4 (k m : Nat) (K : Kont) (st : St) : Bool := iter V51.P 0 (exC V51 (run V51 k 9) 0 19 k (fstC (fstC (sndC (fstC (sndC (sndC (bodyC V51.P 19)))))))) [0, 3] m st (kBlk 0 (kSeq (exC V51 (run V51 k 9) 0 19 k (sndC (sndC (sndC (bodyC V51.P 19))))) (kBody V51.P (resC V51.P 19) K)))
theorem L19_4_step (d0 : List (List AC)) (i3 : Int) (k m : Nat) (K : Kont) : L19_4 k (m + 1) K ⟨[(0, AV.one (AC.dat 61 d0)), (3, AV.one (AC.int .i64 i3))], []⟩ =
  br ((decide ((i3 : Int) < (d0.length : Int))))
    (grd ((decide (0 ≤ i3) && decide (i3 < (d0.length : Int)))) (br ((((((d0.getD (Int.toNat i3) [])).getD 0 AC.any).toInt : Int) == 7))
      (br ((((((d0.getD (Int.toNat i3) [])).getD 2 AC.any).toInt : Int) == 0))
        (br ((!(F48_0 (((d0.getD (Int.toNat i3) [])).getD 8 AC.any).toInt (((d0.getD (Int.toNat i3) [])).getD 9 AC.any).toInt)))
          (K [AV.one (AC.bool false)] [Blk.box [AC.int .i64 (((d0.getD (Int.toNat i3) [])).getD 0 AC.any).toInt, AC.int .i64 (((d0.getD (Int.toNat i3) [])).getD 1 AC.any).toInt, AC.int .i64 (((d0.getD (Int.toNat i3) [])).getD 2 AC.any).toInt, AC.int .i64 (((d0.getD (Int.toNat i3) [])).getD 3 AC.any).toInt, AC.bool (((d0.getD (Int.toNat i3) [])).getD 4 AC.any).toBool, AC.bool (((d0.getD (Int.toNat i3) [])).getD 5 AC.any).toBool, AC.int .i64 (((d0.getD (Int.toNat i3) [])).getD 6 AC.any).toInt, AC.int .i64 (((d0.getD (Int.toNat i3) [])).getD 7 AC.any).toInt, AC.int .i64 (((d0.getD (Int.toNat i3) [])).getD 8 AC.any).toInt, AC.int .i64 (((d0.getD (Int.toNat i3) [])).getD 9 AC.any).toInt]])
          (br ((((d0.getD (Int.toNat i3) [])).getD 5 AC.any).toBool)
            (br ((!(F49_0 (((d0.getD (Int.toNat i3) [])).getD 8 AC.any).toInt (((d0.getD (Int.toNat i3) [])).getD 9 AC.any).toInt (((d0.getD (Int.toNat i3) [])).getD 6 AC.any).toInt (((d0.getD (Int.toNat i3) [])).getD 7 AC.any).toInt)))
              (K [AV.one (AC.bool false)] [Blk.box [AC.int .i64 (((d0.getD (Int.toNat i3) [])).getD 0 AC.any).toInt, AC.int .i64 (((d0.getD (Int.toNat i3) [])).getD 1 AC.any).toInt, AC.int .i64 (((d0.getD (Int.toNat i3) [])).getD 2 AC.any).toInt, AC.int .i64 (((d0.getD (Int.toNat i3) [])).getD 3 AC.any).toInt, AC.bool (((d0.getD (Int.toNat i3) [])).getD 4 AC.any).toBool, AC.bool (((d0.getD (Int.toNat i3) [])).getD 5 AC.any).toBool, AC.int .i64 (((d0.getD (Int.toNat i3) [])).getD 6 AC.any).toInt, AC.int .i64 (((d0.getD (Int.toNat i3) [])).getD 7 AC.any).toInt, AC.int .i64 (((d0.getD (Int.toNat i3) [])).getD 8 AC.any).toInt, AC.int .i64 (((d0.getD (Int.toNat i3) [])).getD 9 AC.any).toInt]])
              (L19_4 k m K ⟨[(0, AV.one (AC.dat 61 d0)), (3, AV.one (AC.int .i64 (IntKind.wrap .i64 (i3 + 1))))], []⟩))
            (L19_4 k m K ⟨[(0, AV.one (AC.dat 61 d0)), (3, AV.one (AC.int .i64 (IntKind.wrap .i64 (i3 + 1))))], []⟩)))
        (L19_4 k m K ⟨[(0, AV.one (AC.dat 61 d0)), (3, AV.one (AC.int .i64 (IntKind.wrap .i64 (i3 + 1))))], []⟩))
      (L19_4 k m K ⟨[(0, AV.one (AC.dat 61 d0)), (3, AV.one (AC.int .i64 (IntKind.wrap .i64 (i3 + 1))))], []⟩)))
    (K [AV.one (AC.bool true)] []) := by kernel_rfl
theorem f19_start (d0 : List (List AC)) (k : Nat) (K : Kont) : bodyA V51 (run V51 k 9) 19 k [AV.one (AC.dat 61 d0)] [] K =
  br ((decide ((200 : Int) < (d0.length : Int))))
    (K [AV.one (AC.bool false)] [])
    (L19_4 k k K ⟨[(0, AV.one (AC.dat 61 d0)), (3, AV.one (AC.int .i64 0))], []⟩) := by kernel_rfl
def B19 (d0 : List (List AC)) (i : Nat) : Bool := (br ((((((d0.getD (Int.toNat (i : Int)) [])).getD 0 AC.any).toInt : Int) == 7)) (br ((((((d0.getD (Int.toNat (i : Int)) [])).getD 2 AC.any).toInt : Int) == 0)) (br ((!(F48_0 (((d0.getD (Int.toNat (i : Int)) [])).getD 8 AC.any).toInt (((d0.getD (Int.toNat (i : Int)) [])).getD 9 AC.any).toInt))) false (br ((((d0.getD (Int.toNat (i : Int)) [])).getD 5 AC.any).toBool) (br ((!(F49_0 (((d0.getD (Int.toNat (i : Int)) [])).getD 8 AC.any).toInt (((d0.getD (Int.toNat (i : Int)) [])).getD 9 AC.any).toInt (((d0.getD (Int.toNat (i : Int)) [])).getD 6 AC.any).toInt (((d0.getD (Int.toNat (i : Int)) [])).getD 7 AC.any).toInt))) false true) true)) true) true)
theorem L19_4_all (d0 : List (List AC))  (hmax : d0.length ≤ 9223372036854775806) (k : Nat) (K : Kont) : ∀ (m i : Nat), i ≤ d0.length → d0.length - i < m → L19_4 k m (clean K) ⟨[(0, AV.one (AC.dat 61 d0)), (3, AV.one (AC.int .i64 (i : Int)))], []⟩ = K [AV.one (AC.bool (allN (B19 d0) i (d0.length - i)))] []
  | 0, i, hi, hm => by omega
  | m + 1, i, hi, hm => by
    rw [L19_4_step]
    by_cases h : i < d0.length
    · have e2 : IntKind.wrap .i64 ((i : Int) + 1) = ((i + 1 : Nat) : Int) := by rw [w64 (by omega) (by omega)]; simp
      rw [br_true (by simpa using h)]
      try simp only [Bool.and_self]
      repeat rw [grd_true (by simp; omega)]
      rw [show d0.length - i = (d0.length - (i + 1)) + 1 by omega, allN, e2, L19_4_all d0  hmax k K m (i + 1) (by omega) (by omega)]
      generalize allN (B19 d0) (i + 1) (d0.length - (i + 1)) = q
      unfold B19
      repeat' (with_reducible refine brK (fun _ => ?_) (fun _ => ?_))
      all_goals first | (exfalso; simp_all; done) | (simp only [br_tt, br_ff, Bool.true_and, Bool.false_and, Bool.not_false, *]; first | rfl | done)
    · rw [br_false (by simpa using h), show d0.length - i = 0 by omega]
      rfl
def F19 (d0 : List (List AC)) : Bool := (br ((decide ((200 : Int) < (d0.length : Int)))) false (allN (B19 d0) 0 d0.length))
theorem f19_go (d0 : List (List AC)) (hmax : d0.length ≤ 9223372036854775806) (K : Kont) : bodyA V51 (run V51 (d0.length + 1) 9) 19 (d0.length + 1) [AV.one (AC.dat 61 d0)] [] (clean K) = K [AV.one (AC.bool (F19 d0))] [] := by
  refine (f19_start d0 (d0.length + 1) (clean K)).trans ?_
  rw [show (0 : Int) = ((0 : Nat) : Int) from rfl]
  unfold F19
  repeat' (with_reducible refine brK (fun _ => ?_) (fun _ => ?_))
  all_goals first | (simp only [br_tt, br_ff, *]; rw [L19_4_all d0  (by omega) _ _ _ 0 (by omega) (by omega), Nat.sub_zero]) | (simp only [br_tt, br_ff, *]; rfl)
def go19 : List AV → List Blk → Kont → Bool
  | [AV.one (AC.dat 61 d0)], B, K => grd (decide (d0.length ≤ 9223372036854775806)) (K [AV.one (AC.bool (F19 d0))] B)
  | _, _, _ => false
noncomputable def V19 : Env := V51.add 19 ⟨true, go19⟩
theorem V19_ok : EnvOk V19 := by
  refine V51_ok.put hm 19 go19 (fun args K h => ?_)
  unfold go19 at h
  split at h
  · rename_i d0
    obtain ⟨h0, h⟩ := grd_ok h
    exact ⟨d0.length + 1, 9, (f19_go d0 (by simpa using h0) _).trans h⟩
  · cases h
noncomputable def L20_4 (k m : Nat) (K : Kont) (st : St) : Bool := iter V19.P 0 (exC V19 (run V19 k 9) 0 20 k (fstC (fstC (sndC (fstC (sndC (sndC (bodyC V19.P 20)))))))) [8, 9, 10] m st (kBlk 0 (kSeq (exC V19 (run V19 k 9) 0 20 k (sndC (sndC (sndC (bodyC V19.P 20))))) (kBody V19.P (resC V19.P 20) K)))
theorem L20_4_step (d0 : List (List AC)) (i10 : Int) (k m : Nat) (K : Kont) : L20_4 k (m + 1) K ⟨[(8, AV.one (AC.dat 61 d0)), (9, AV.one (AC.int .i64 (d0.length : Int))), (10, AV.one (AC.int .i64 i10))], []⟩ =
  br ((decide ((i10 : Int) < (d0.length : Int))))
    (grd ((decide (0 ≤ i10) && decide (i10 < (d0.length : Int)))) (br ((((((d0.getD (Int.toNat i10) [])).getD 0 AC.any).toInt : Int) == 7))
      (br ((((((d0.getD (Int.toNat i10) [])).getD 2 AC.any).toInt : Int) == 0))
        (br ((!(F50_0 (((d0.getD (Int.toNat i10) [])).getD 8 AC.any).toInt (((d0.getD (Int.toNat i10) [])).getD 9 AC.any).toInt)))
          (K [AV.one (AC.bool false)] [Blk.box [AC.int .i64 (((d0.getD (Int.toNat i10) [])).getD 0 AC.any).toInt, AC.int .i64 (((d0.getD (Int.toNat i10) [])).getD 1 AC.any).toInt, AC.int .i64 (((d0.getD (Int.toNat i10) [])).getD 2 AC.any).toInt, AC.int .i64 (((d0.getD (Int.toNat i10) [])).getD 3 AC.any).toInt, AC.bool (((d0.getD (Int.toNat i10) [])).getD 4 AC.any).toBool, AC.bool (((d0.getD (Int.toNat i10) [])).getD 5 AC.any).toBool, AC.int .i64 (((d0.getD (Int.toNat i10) [])).getD 6 AC.any).toInt, AC.int .i64 (((d0.getD (Int.toNat i10) [])).getD 7 AC.any).toInt, AC.int .i64 (((d0.getD (Int.toNat i10) [])).getD 8 AC.any).toInt, AC.int .i64 (((d0.getD (Int.toNat i10) [])).getD 9 AC.any).toInt]])
          (br ((((d0.getD (Int.toNat i10) [])).getD 5 AC.any).toBool)
            (br ((!(F51_0 (((d0.getD (Int.toNat i10) [])).getD 8 AC.any).toInt (((d0.getD (Int.toNat i10) [])).getD 9 AC.any).toInt (((d0.getD (Int.toNat i10) [])).getD 6 AC.any).toInt (((d0.getD (Int.toNat i10) [])).getD 7 AC.any).toInt)))
              (K [AV.one (AC.bool false)] [Blk.box [AC.int .i64 (((d0.getD (Int.toNat i10) [])).getD 0 AC.any).toInt, AC.int .i64 (((d0.getD (Int.toNat i10) [])).getD 1 AC.any).toInt, AC.int .i64 (((d0.getD (Int.toNat i10) [])).getD 2 AC.any).toInt, AC.int .i64 (((d0.getD (Int.toNat i10) [])).getD 3 AC.any).toInt, AC.bool (((d0.getD (Int.toNat i10) [])).getD 4 AC.any).toBool, AC.bool (((d0.getD (Int.toNat i10) [])).getD 5 AC.any).toBool, AC.int .i64 (((d0.getD (Int.toNat i10) [])).getD 6 AC.any).toInt, AC.int .i64 (((d0.getD (Int.toNat i10) [])).getD 7 AC.any).toInt, AC.int .i64 (((d0.getD (Int.toNat i10) [])).getD 8 AC.any).toInt, AC.int .i64 (((d0.getD (Int.toNat i10) [])).getD 9 AC.any).toInt]])
              (L20_4 k m K ⟨[(8, AV.one (AC.dat 61 d0)), (9, AV.one (AC.int .i64 (d0.length : Int))), (10, AV.one (AC.int .i64 (IntKind.wrap .i64 (i10 + 1))))], []⟩))
            (L20_4 k m K ⟨[(8, AV.one (AC.dat 61 d0)), (9, AV.one (AC.int .i64 (d0.length : Int))), (10, AV.one (AC.int .i64 (IntKind.wrap .i64 (i10 + 1))))], []⟩)))
        (L20_4 k m K ⟨[(8, AV.one (AC.dat 61 d0)), (9, AV.one (AC.int .i64 (d0.length : Int))), (10, AV.one (AC.int .i64 (IntKind.wrap .i64 (i10 + 1))))], []⟩))
      (L20_4 k m K ⟨[(8, AV.one (AC.dat 61 d0)), (9, AV.one (AC.int .i64 (d0.length : Int))), (10, AV.one (AC.int .i64 (IntKind.wrap .i64 (i10 + 1))))], []⟩)))
    (K [AV.one (AC.bool true)] []) := by kernel_rfl
theorem f20_start (d0 : List (List AC)) (k : Nat) (K : Kont) : bodyA V19 (run V19 k 9) 20 k [AV.one (AC.dat 61 d0)] [] K =
  br ((decide ((200 : Int) < (d0.length : Int))))
    (K [AV.one (AC.bool false)] [])
    (L20_4 k k K ⟨[(8, AV.one (AC.dat 61 d0)), (9, AV.one (AC.int .i64 (d0.length : Int))), (10, AV.one (AC.int .i64 0))], []⟩) := by kernel_rfl
def B20 (d0 : List (List AC)) (i : Nat) : Bool := (br ((((((d0.getD (Int.toNat (i : Int)) [])).getD 0 AC.any).toInt : Int) == 7)) (br ((((((d0.getD (Int.toNat (i : Int)) [])).getD 2 AC.any).toInt : Int) == 0)) (br ((!(F50_0 (((d0.getD (Int.toNat (i : Int)) [])).getD 8 AC.any).toInt (((d0.getD (Int.toNat (i : Int)) [])).getD 9 AC.any).toInt))) false (br ((((d0.getD (Int.toNat (i : Int)) [])).getD 5 AC.any).toBool) (br ((!(F51_0 (((d0.getD (Int.toNat (i : Int)) [])).getD 8 AC.any).toInt (((d0.getD (Int.toNat (i : Int)) [])).getD 9 AC.any).toInt (((d0.getD (Int.toNat (i : Int)) [])).getD 6 AC.any).toInt (((d0.getD (Int.toNat (i : Int)) [])).getD 7 AC.any).toInt))) false true) true)) true) true)
theorem L20_4_all (d0 : List (List AC))  (hmax : d0.length ≤ 9223372036854775806) (k : Nat) (K : Kont) : ∀ (m i : Nat), i ≤ d0.length → d0.length - i < m → L20_4 k m (clean K) ⟨[(8, AV.one (AC.dat 61 d0)), (9, AV.one (AC.int .i64 (d0.length : Int))), (10, AV.one (AC.int .i64 (i : Int)))], []⟩ = K [AV.one (AC.bool (allN (B20 d0) i (d0.length - i)))] []
  | 0, i, hi, hm => by omega
  | m + 1, i, hi, hm => by
    rw [L20_4_step]
    by_cases h : i < d0.length
    · have e2 : IntKind.wrap .i64 ((i : Int) + 1) = ((i + 1 : Nat) : Int) := by rw [w64 (by omega) (by omega)]; simp
      rw [br_true (by simpa using h)]
      try simp only [Bool.and_self]
      repeat rw [grd_true (by simp; omega)]
      rw [show d0.length - i = (d0.length - (i + 1)) + 1 by omega, allN, e2, L20_4_all d0  hmax k K m (i + 1) (by omega) (by omega)]
      generalize allN (B20 d0) (i + 1) (d0.length - (i + 1)) = q
      unfold B20
      repeat' (with_reducible refine brK (fun _ => ?_) (fun _ => ?_))
      all_goals first | (exfalso; simp_all; done) | (simp only [br_tt, br_ff, Bool.true_and, Bool.false_and, Bool.not_false, *]; first | rfl | done)
    · rw [br_false (by simpa using h), show d0.length - i = 0 by omega]
      rfl
def F20 (d0 : List (List AC)) : Bool := (br ((decide ((200 : Int) < (d0.length : Int)))) false (allN (B20 d0) 0 d0.length))
theorem f20_go (d0 : List (List AC)) (hmax : d0.length ≤ 9223372036854775806) (K : Kont) : bodyA V19 (run V19 (d0.length + 1) 9) 20 (d0.length + 1) [AV.one (AC.dat 61 d0)] [] (clean K) = K [AV.one (AC.bool (F20 d0))] [] := by
  refine (f20_start d0 (d0.length + 1) (clean K)).trans ?_
  rw [show (0 : Int) = ((0 : Nat) : Int) from rfl]
  unfold F20
  repeat' (with_reducible refine brK (fun _ => ?_) (fun _ => ?_))
  all_goals first | (simp only [br_tt, br_ff, *]; rw [L20_4_all d0  (by omega) _ _ _ 0 (by omega) (by omega), Nat.sub_zero]) | (simp only [br_tt, br_ff, *]; rfl)
def go20 : List AV → List Blk → Kont → Bool
  | [AV.one (AC.dat 61 d0)], B, K => grd (decide (d0.length ≤ 9223372036854775806)) (K [AV.one (AC.bool (F20 d0))] B)
  | _, _, _ => false
noncomputable def V20 : Env := V19.add 20 ⟨true, go20⟩
theorem V20_ok : EnvOk V20 := by
  refine V19_ok.put hm 20 go20 (fun args K h => ?_)
  unfold go20 at h
  split at h
  · rename_i d0
    obtain ⟨h0, h⟩ := grd_ok h
    exact ⟨d0.length + 1, 9, (f20_go d0 (by simpa using h0) _).trans h⟩
  · cases h
noncomputable def L16_3 (k m : Nat) (K : Kont) (st : St) : Bool := iter V20.P 0 (exC V20 (run V20 k 9) 0 16 k (fstC (fstC (sndC (fstC (sndC (sndC (bodyC V20.P 16)))))))) [0, 3, 4] m st (kBlk 0 (kSeq (exC V20 (run V20 k 9) 0 16 k (sndC (sndC (sndC (bodyC V20.P 16))))) (kBody V20.P (resC V20.P 16) K)))
theorem L16_3_step (d0 : List (List AC)) (i4 : Int) (r0 : List (List AC)) (k m : Nat) (K : Kont) : L16_3 k (m + 1) K ⟨[(0, AV.one (AC.dat 65 d0)), (3, AV.one (AC.own 0)), (4, AV.one (AC.int .i64 i4))], [Blk.rows 61 r0]⟩ =
  br ((decide ((i4 : Int) < (d0.length : Int))))
    (grd ((decide (0 ≤ i4) && decide (i4 < (d0.length : Int)))) (grd ((decide (0 ≤ i4) && decide (i4 < (r0.length : Int)))) (L16_3 k m K ⟨[(0, AV.one (AC.dat 65 d0)), (3, AV.one (AC.own 0)), (4, AV.one (AC.int .i64 (IntKind.wrap .i64 (i4 + 1))))], [Blk.rows 61 (r0.set (Int.toNat i4) [AC.int .i64 (((d0.getD (Int.toNat i4) [])).getD 0 AC.any).toInt, AC.int .i64 (((d0.getD (Int.toNat i4) [])).getD 1 AC.any).toInt, AC.int .i64 (((d0.getD (Int.toNat i4) [])).getD 2 AC.any).toInt, AC.int .i64 (((d0.getD (Int.toNat i4) [])).getD 3 AC.any).toInt, AC.bool (((d0.getD (Int.toNat i4) [])).getD 4 AC.any).toBool, AC.bool (((d0.getD (Int.toNat i4) [])).getD 5 AC.any).toBool, AC.int .i64 (((d0.getD (Int.toNat i4) [])).getD 6 AC.any).toInt, AC.int .i64 (((d0.getD (Int.toNat i4) [])).getD 7 AC.any).toInt, AC.int .i64 (((d0.getD (Int.toNat i4) [])).getD 8 AC.any).toInt, AC.int .i64 (((d0.getD (Int.toNat i4) [])).getD 9 AC.any).toInt])]⟩)))
    (K [AV.one (AC.own 0)] [Blk.rows 61 r0]) := by kernel_rfl
theorem f16_start (d0 : List (List AC)) (k : Nat) (K : Kont) : bodyA V20 (run V20 k 9) 16 k [AV.one (AC.dat 65 d0)] [] K =
  grd (((decide (0 ≤ (d0.length : Int)) && decide ((d0.length : Int) ≤ (d0.length : Int))) && decide ((d0.length : Int) * 72 ≤ maxRows))) (L16_3 k k K ⟨[(0, AV.one (AC.dat 65 d0)), (3, AV.one (AC.own 0)), (4, AV.one (AC.int .i64 0))], [Blk.rows 61 (List.replicate (Int.toNat (d0.length : Int)) [AC.int .i64 0, AC.int .i64 0, AC.int .i64 0, AC.int .i64 0, AC.bool false, AC.bool false, AC.int .i64 0, AC.int .i64 0, AC.int .i64 0, AC.int .i64 0])]⟩) := by kernel_rfl
def N16 (r : List AC) : List AC := [AC.int .i64 ((r).getD 0 AC.any).toInt, AC.int .i64 ((r).getD 1 AC.any).toInt, AC.int .i64 ((r).getD 2 AC.any).toInt, AC.int .i64 ((r).getD 3 AC.any).toInt, AC.bool ((r).getD 4 AC.any).toBool, AC.bool ((r).getD 5 AC.any).toBool, AC.int .i64 ((r).getD 6 AC.any).toInt, AC.int .i64 ((r).getD 7 AC.any).toInt, AC.int .i64 ((r).getD 8 AC.any).toInt, AC.int .i64 ((r).getD 9 AC.any).toInt]
def Z16 : List AC := [AC.int .i64 0, AC.int .i64 0, AC.int .i64 0, AC.int .i64 0, AC.bool false, AC.bool false, AC.int .i64 0, AC.int .i64 0, AC.int .i64 0, AC.int .i64 0]
theorem L16_3_fill (d0 : List (List AC)) (hmax : d0.length ≤ 9223372036854775806) (k : Nat) (K : Kont) : ∀ (m i : Nat), i ≤ d0.length → d0.length - i < m → L16_3 k m (clean K) ⟨[(0, AV.one (AC.dat 65 d0)), (3, AV.one (AC.own 0)), (4, AV.one (AC.int .i64 (i : Int)))], [Blk.rows 61 ((d0.take i).map N16 ++ List.replicate (d0.length - i) Z16)]⟩ = K [AV.one (AC.own 0)] [Blk.rows 61 (d0.map N16)]
  | 0, i, hi, hm => by omega
  | m + 1, i, hi, hm => by
    rw [L16_3_step]
    by_cases h : i < d0.length
    · have e2 : IntKind.wrap .i64 ((i : Int) + 1) = ((i + 1 : Nat) : Int) := by rw [w64 (by omega) (by omega)]; simp
      rw [br_true (by simpa using h)]
      repeat rw [grd_true (by simp; omega)]
      have e3 := fill_set N16 Z16 d0 i h
      rw [e2, ← L16_3_fill d0 hmax k K m (i + 1) (by omega) (by omega), ← e3]
      rfl
    · rw [br_false (by simpa using h)]
      have : i = d0.length := by omega
      subst this
      rw [List.take_length, Nat.sub_self]
      simp only [List.replicate_zero, List.append_nil]
      rfl
theorem f16_go (d0 : List (List AC)) (h1 : d0.length * 72 ≤ maxRows) (K : Kont) : bodyA V20 (run V20 (d0.length + 1) 9) 16 (d0.length + 1) [AV.one (AC.dat 65 d0)] [] (clean K) = K [AV.one (AC.own 0)] [Blk.rows 61 (d0.map N16)] := by
  refine (f16_start d0 (d0.length + 1) (clean K)).trans ?_
  have hM : maxRows = 70368744177664 := rfl
  rw [grd_true (by simp; omega)]
  exact L16_3_fill d0 (by omega) _ K (d0.length + 1) 0 (by omega) (by omega)
def go16 : List AV → List Blk → Kont → Bool
  | [AV.one (AC.dat 65 d0)], _, K => grd (decide (d0.length * 72 ≤ maxRows)) (K [AV.one (AC.own 0)] [Blk.rows 61 (d0.map N16)])
  | _, _, _ => false
noncomputable def V16 : Env := V20.add 16 ⟨true, go16⟩
theorem V16_ok : EnvOk V16 := by
  refine V20_ok.put hm 16 go16 (fun args K h => ?_)
  unfold go16 at h
  split at h
  · rename_i d0
    obtain ⟨h0, h⟩ := grd_ok h
    exact ⟨d0.length + 1, 9, (f16_go d0 (by simpa using h0) _).trans h⟩
  · cases h
noncomputable def L18_4 (k m : Nat) (K : Kont) (st : St) : Bool := iter V16.P 0 (exC V16 (run V16 k 9) 0 18 k (fstC (fstC (sndC (fstC (sndC (sndC (bodyC V16.P 18)))))))) [0, 1, 5] m st (kBlk 0 (kSeq (exC V16 (run V16 k 9) 0 18 k (sndC (sndC (sndC (bodyC V16.P 18))))) (kBody V16.P (resC V16.P 18) K)))
theorem L18_4_step (d0 : List (List AC)) (d1 : List (List AC)) (i5 : Int) (k m : Nat) (K : Kont) : L18_4 k (m + 1) K ⟨[(0, AV.one (AC.dat 61 d0)), (1, AV.one (AC.dat 61 d1)), (5, AV.one (AC.int .i64 i5))], []⟩ =
  br ((decide ((i5 : Int) < (d0.length : Int))))
    (grd ((decide (0 ≤ i5) && decide (i5 < (d0.length : Int)))) (grd ((decide (0 ≤ i5) && decide (i5 < (d1.length : Int)))) (((br ((!(F47_0 (((d0.getD (Int.toNat i5) [])).getD 0 AC.any).toInt (((d0.getD (Int.toNat i5) [])).getD 1 AC.any).toInt (((d0.getD (Int.toNat i5) [])).getD 2 AC.any).toInt (((d0.getD (Int.toNat i5) [])).getD 3 AC.any).toInt (((d0.getD (Int.toNat i5) [])).getD 4 AC.any).toBool (((d0.getD (Int.toNat i5) [])).getD 5 AC.any).toBool (((d0.getD (Int.toNat i5) [])).getD 6 AC.any).toInt (((d0.getD (Int.toNat i5) [])).getD 7 AC.any).toInt (((d0.getD (Int.toNat i5) [])).getD 8 AC.any).toInt (((d0.getD (Int.toNat i5) [])).getD 9 AC.any).toInt (((d1.getD (Int.toNat i5) [])).getD 0 AC.any).toInt (((d1.getD (Int.toNat i5) [])).getD 1 AC.any).toInt (((d1.getD (Int.toNat i5) [])).getD 2 AC.any).toInt (((d1.getD (Int.toNat i5) [])).getD 3 AC.any).toInt (((d1.getD (Int.toNat i5) [])).getD 4 AC.any).toBool (((d1.getD (Int.toNat i5) [])).getD 5 AC.any).toBool (((d1.getD (Int.toNat i5) [])).getD 6 AC.any).toInt (((d1.getD (Int.toNat i5) [])).getD 7 AC.any).toInt (((d1.getD (Int.toNat i5) [])).getD 8 AC.any).toInt (((d1.getD (Int.toNat i5) [])).getD 9 AC.any).toInt)))
      (K [AV.one (AC.bool false)] [])
      (L18_4 k m K ⟨[(0, AV.one (AC.dat 61 d0)), (1, AV.one (AC.dat 61 d1)), (5, AV.one (AC.int .i64 (IntKind.wrap .i64 (i5 + 1))))], []⟩)) &&
      (br ((!(F47_0 (((d0.getD (Int.toNat i5) [])).getD 0 AC.any).toInt (((d0.getD (Int.toNat i5) [])).getD 1 AC.any).toInt (((d0.getD (Int.toNat i5) [])).getD 2 AC.any).toInt (((d0.getD (Int.toNat i5) [])).getD 3 AC.any).toInt (((d0.getD (Int.toNat i5) [])).getD 4 AC.any).toBool (((d0.getD (Int.toNat i5) [])).getD 5 AC.any).toBool (((d0.getD (Int.toNat i5) [])).getD 6 AC.any).toInt (((d0.getD (Int.toNat i5) [])).getD 7 AC.any).toInt (((d0.getD (Int.toNat i5) [])).getD 8 AC.any).toInt (((d0.getD (Int.toNat i5) [])).getD 9 AC.any).toInt (((d1.getD (Int.toNat i5) [])).getD 0 AC.any).toInt (((d1.getD (Int.toNat i5) [])).getD 1 AC.any).toInt (((d1.getD (Int.toNat i5) [])).getD 2 AC.any).toInt (((d1.getD (Int.toNat i5) [])).getD 3 AC.any).toInt (((d1.getD (Int.toNat i5) [])).getD 4 AC.any).toBool (((d1.getD (Int.toNat i5) [])).getD 5 AC.any).toBool (((d1.getD (Int.toNat i5) [])).getD 6 AC.any).toInt (((d1.getD (Int.toNat i5) [])).getD 7 AC.any).toInt (((d1.getD (Int.toNat i5) [])).getD 8 AC.any).toInt (((d1.getD (Int.toNat i5) [])).getD 9 AC.any).toInt)))
      (K [AV.one (AC.bool false)] [])
      (L18_4 k m K ⟨[(0, AV.one (AC.dat 61 d0)), (1, AV.one (AC.dat 61 d1)), (5, AV.one (AC.int .i64 (IntKind.wrap .i64 (i5 + 1))))], []⟩))))))
    (K [AV.one (AC.bool true)] []) := by kernel_rfl
theorem f18_start (d0 : List (List AC)) (d1 : List (List AC)) (k : Nat) (K : Kont) : bodyA V16 (run V16 k 9) 18 k [AV.one (AC.dat 61 d0), AV.one (AC.dat 61 d1)] [] K =
  br ((((d0.length : Int) : Int) != (d1.length : Int)))
    (K [AV.one (AC.bool false)] [])
    (L18_4 k k K ⟨[(0, AV.one (AC.dat 61 d0)), (1, AV.one (AC.dat 61 d1)), (5, AV.one (AC.int .i64 0))], []⟩) := by kernel_rfl
def B18 (d0 : List (List AC)) (d1 : List (List AC)) (i : Nat) : Bool := (br ((!(F47_0 (((d0.getD (Int.toNat (i : Int)) [])).getD 0 AC.any).toInt (((d0.getD (Int.toNat (i : Int)) [])).getD 1 AC.any).toInt (((d0.getD (Int.toNat (i : Int)) [])).getD 2 AC.any).toInt (((d0.getD (Int.toNat (i : Int)) [])).getD 3 AC.any).toInt (((d0.getD (Int.toNat (i : Int)) [])).getD 4 AC.any).toBool (((d0.getD (Int.toNat (i : Int)) [])).getD 5 AC.any).toBool (((d0.getD (Int.toNat (i : Int)) [])).getD 6 AC.any).toInt (((d0.getD (Int.toNat (i : Int)) [])).getD 7 AC.any).toInt (((d0.getD (Int.toNat (i : Int)) [])).getD 8 AC.any).toInt (((d0.getD (Int.toNat (i : Int)) [])).getD 9 AC.any).toInt (((d1.getD (Int.toNat (i : Int)) [])).getD 0 AC.any).toInt (((d1.getD (Int.toNat (i : Int)) [])).getD 1 AC.any).toInt (((d1.getD (Int.toNat (i : Int)) [])).getD 2 AC.any).toInt (((d1.getD (Int.toNat (i : Int)) [])).getD 3 AC.any).toInt (((d1.getD (Int.toNat (i : Int)) [])).getD 4 AC.any).toBool (((d1.getD (Int.toNat (i : Int)) [])).getD 5 AC.any).toBool (((d1.getD (Int.toNat (i : Int)) [])).getD 6 AC.any).toInt (((d1.getD (Int.toNat (i : Int)) [])).getD 7 AC.any).toInt (((d1.getD (Int.toNat (i : Int)) [])).getD 8 AC.any).toInt (((d1.getD (Int.toNat (i : Int)) [])).getD 9 AC.any).toInt))) false true)
theorem L18_4_all (d0 : List (List AC)) (d1 : List (List AC)) (hx : d0.length = d1.length) (hmax : d0.length ≤ 9223372036854775806) (k : Nat) (K : Kont) : ∀ (m i : Nat), i ≤ d0.length → d0.length - i < m → L18_4 k m (clean K) ⟨[(0, AV.one (AC.dat 61 d0)), (1, AV.one (AC.dat 61 d1)), (5, AV.one (AC.int .i64 (i : Int)))], []⟩ = K [AV.one (AC.bool (allN (B18 d0 d1) i (d0.length - i)))] []
  | 0, i, hi, hm => by omega
  | m + 1, i, hi, hm => by
    rw [L18_4_step]
    by_cases h : i < d0.length
    · have e2 : IntKind.wrap .i64 ((i : Int) + 1) = ((i + 1 : Nat) : Int) := by rw [w64 (by omega) (by omega)]; simp
      rw [br_true (by simpa using h)]
      try simp only [Bool.and_self]
      repeat rw [grd_true (by simp; omega)]
      rw [show d0.length - i = (d0.length - (i + 1)) + 1 by omega, allN, e2, L18_4_all d0 d1 hx hmax k K m (i + 1) (by omega) (by omega)]
      generalize allN (B18 d0 d1) (i + 1) (d0.length - (i + 1)) = q
      unfold B18
      repeat' (with_reducible refine brK (fun _ => ?_) (fun _ => ?_))
      all_goals first | (exfalso; simp_all; done) | (simp only [br_tt, br_ff, Bool.true_and, Bool.false_and, Bool.not_false, *]; first | rfl | done)
    · rw [br_false (by simpa using h), show d0.length - i = 0 by omega]
      rfl
def F18 (d0 : List (List AC)) (d1 : List (List AC)) : Bool := (br ((((d0.length : Int) : Int) != (d1.length : Int))) false (allN (B18 d0 d1) 0 d0.length))
theorem f18_go (d0 : List (List AC)) (d1 : List (List AC)) (hmax : d0.length ≤ 9223372036854775806) (K : Kont) : bodyA V16 (run V16 (d0.length + 1) 9) 18 (d0.length + 1) [AV.one (AC.dat 61 d0), AV.one (AC.dat 61 d1)] [] (clean K) = K [AV.one (AC.bool (F18 d0 d1))] [] := by
  refine (f18_start d0 d1 (d0.length + 1) (clean K)).trans ?_
  rw [show (0 : Int) = ((0 : Nat) : Int) from rfl]
  unfold F18
  repeat' (with_reducible refine brK (fun _ => ?_) (fun _ => ?_))
  all_goals first | (simp only [br_tt, br_ff, *]; rw [L18_4_all d0 d1 (by rename_i hq; simp at hq; omega) (by omega) _ _ _ 0 (by omega) (by omega), Nat.sub_zero]) | (simp only [br_tt, br_ff, *]; rfl)
def go18 : List AV → List Blk → Kont → Bool
  | [AV.one (AC.dat 61 d0), AV.one (AC.dat 61 d1)], B, K => grd (decide (d0.length ≤ 9223372036854775806)) (K [AV.one (AC.bool (F18 d0 d1))] B)
  | _, _, _ => false
noncomputable def V18 : Env := V16.add 18 ⟨true, go18⟩
theorem V18_ok : EnvOk V18 := by
  refine V16_ok.put hm 18 go18 (fun args K h => ?_)
  unfold go18 at h
  split at h
  · rename_i d0 d1
    obtain ⟨h0, h⟩ := grd_ok h
    exact ⟨d0.length + 1, 9, (f18_go d0 d1 (by simpa using h0) _).trans h⟩
  · cases h
theorem f5_start (d0 : List (List AC)) (k : Nat) (K : Kont) : bodyA V18 (run V18 k 9) 5 k [AV.one (AC.dat 65 d0)] [] K =
  br ((decide (((IntKind.wrap .i64 (1048576 - (d0.length : Int))) : Int) < 0)))
    (K [AV.one (AC.bool true)] [])
    (br ((decide (((IntKind.wrap .i64 (1048576 - (d0.length : Int))) : Int) < 0)))
      (K [AV.one (AC.bool true)] [])
      (grd ((decide (d0.length * 72 ≤ maxRows))) (grd ((decide ((d0.map N16).length ≤ 9223372036854775806))) (grd ((decide (d0.length * 72 ≤ maxRows))) (grd ((decide ((d0.map N16).length ≤ 9223372036854775806))) (br ((!((F20 (d0.map N16)) == (F19 (d0.map N16)))))
        (K [AV.one (AC.bool false)] [Blk.rows 61 (d0.map N16), Blk.rows 61 (d0.map N16)])
        (grd ((decide (d0.length * 72 ≤ maxRows))) (grd ((decide ((d0.map N16).length ≤ 9223372036854775806))) (br ((!(F18 (d0.map N16) (d0.map N16))))
          (K [AV.one (AC.bool false)] [Blk.rows 61 (d0.map N16), Blk.rows 61 (d0.map N16), Blk.rows 61 (d0.map N16)])
          (K [AV.one (AC.bool true)] [Blk.rows 61 (d0.map N16), Blk.rows 61 (d0.map N16), Blk.rows 61 (d0.map N16)])))))))))) := by kernel_rfl
end Go.X
