/- Steps of the functions that a law of this seat reaches, and what they come to, for all arguments of the shapes that are named. -/
import Derived.Test.YtejllbmokmibkaaG2b
namespace Go.X
open Go

theorem loop45 (s : ByteArray) (hs : s.size ≤ 64) (k : Nat) (K : Kont) : ∀ (m i : Nat), i ≤ s.size → s.size - i < m →
    L45_5 k m K ⟨[(0, AV.one (AC.str s)), (3, AV.one (AC.own 0)), (9, AV.one (AC.int .i64 (s.size : Int))), (10, AV.one (AC.int .i64 i))], [Blk.rows 5 (hexR s i)]⟩ = K [AV.one (AC.str (rowsStr (hexR s s.size)))] [Blk.rows 5 (hexR s s.size)]
  | 0, i, hi, hm => by omega
  | m + 1, i, hi, hm => by
    rw [L45_5_step]
    by_cases h : i < s.size
    · have hb := byteAt_bd s i
      have ed : Int.tdiv (byteAt s i) 16 = byteAt s i / 16 := Int.tdiv_eq_ediv_of_nonneg hb.1
      have em : Int.tmod (byteAt s i) 16 = byteAt s i % 16 := Int.tmod_eq_emod_of_nonneg hb.1
      have e1 : IntKind.wrap .u8 (byteAt s i / 16) = byteAt s i / 16 := w8 (by omega) (by omega)
      have e2 : IntKind.wrap .i64 ((i : Int) + 1) = ((i + 1 : Nat) : Int) := by rw [w64 (by omega) (by omega)]; simp
      rw [br_true (by simpa using h)]
      simp only [Int.toNat_natCast, ed, em, e1, e2]
      rw [grd_true (by simp; omega), grd_true (by simp; omega), grd_true (by simp; omega), grd_true (by simp; omega), grd_true (by simp [hexR_len, maxRows]; omega)]
      exact loop45 s hs k K m (i + 1) (by omega) (by omega)
    · rw [br_false (by simpa using h)]
      have : i = s.size := by omega
      subst this
      rfl

noncomputable def E2 : Env := E1.add 45 ⟨true, go45⟩
theorem E2_ok : EnvOk E2 := by
  refine E1_ok.put hm 45 go45 (fun args K h => ?_)
  unfold go45 at h
  split at h
  · rename_i s
    obtain ⟨h0, h⟩ := grd_ok h
    simp only [decide_eq_true_eq] at h0
    refine ⟨s.size + 1, 9, ?_⟩
    refine (f45_start s (s.size + 1) (clean _)).trans ?_
    unfold hexS at h
    cases h2 : (s == ByteArray.mk #[]) with
    | true => rw [h2] at h; exact h
    | false =>
      rw [h2] at h
      rw [br_false rfl] at h ⊢
      rw [show ([] : List (List AC)) = hexR s 0 from rfl]
      rw [show (0 : Int) = ((0 : Nat) : Int) from rfl, loop45 s (by omega) _ _ _ 0 (by omega) (by omega)]
      exact h
  · cases h
end Go.X
