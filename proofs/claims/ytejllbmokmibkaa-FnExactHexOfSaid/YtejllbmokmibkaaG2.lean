/- Steps of the functions that a law of this seat reaches, and what they come to, for all arguments of the shapes that are named. -/
import Derived.Test.YtejllbmokmibkaaG1
namespace Go.X
open Go

/-- The two digits of a byte. -/
def hexD (b : Int) : List (List AC) := [[AC.int .u8 (byteAt hexLit (Int.toNat (b / 16)))], [AC.int .u8 (byteAt hexLit (Int.toNat (b % 16)))]]
def hexR (s : ByteArray) : Nat → List (List AC)
  | 0 => []
  | n + 1 => hexR s n ++ hexD (byteAt s n)
def hexS (s : ByteArray) : ByteArray := br (s == ByteArray.mk #[]) (ByteArray.mk #[45]) (rowsStr (hexR s s.size))
def hexT (s : ByteArray) : ByteArray := br (decide ((64 : Int) < (s.size : Int))) (ByteArray.mk #[]) (hexS s)

theorem byteAt_bd (s : ByteArray) (i : Nat) : 0 ≤ byteAt s i ∧ byteAt s i ≤ 255 := by
  unfold byteAt
  have := (s.data.toList.getD i 0).toNat_lt
  omega

theorem w64 {n : Int} (h1 : -9223372036854775808 ≤ n) (h2 : n ≤ 9223372036854775807) : IntKind.wrap .i64 n = n := by
  simp [IntKind.wrap, IntKind.bits, IntKind.signed]; omega
theorem w8 {n : Int} (h1 : 0 ≤ n) (h2 : n ≤ 255) : IntKind.wrap .u8 n = n := by
  simp [IntKind.wrap, IntKind.bits, IntKind.signed]; omega

theorem hexR_len (s : ByteArray) : ∀ n, (hexR s n).length = 2 * n
  | 0 => rfl
  | n + 1 => by simp [hexR, hexD, hexR_len s n]; omega

theorem br_true {α : Type} {c : Bool} {x y : α} (h : c = true) : br c x y = x := by subst h; rfl
theorem br_false {α : Type} {c : Bool} {x y : α} (h : c = false) : br c x y = y := by subst h; rfl
theorem grd_true {c x : Bool} (h : c = true) : grd c x = x := by subst h; rfl

theorem loop12 (s : ByteArray) (hs : s.size ≤ 64) (k : Nat) (K : Kont) : ∀ (m i : Nat), i ≤ s.size → s.size - i < m →
    L12_7 k m K ⟨[(0, AV.one (AC.str s)), (3, AV.one (AC.own 0)), (4, AV.one (AC.int .i64 i))], [Blk.rows 5 (hexR s i)]⟩ = K [AV.one (AC.str (rowsStr (hexR s s.size)))] [Blk.rows 5 (hexR s s.size)]
  | 0, i, hi, hm => by omega
  | m + 1, i, hi, hm => by
    rw [L12_7_step]
    by_cases h : i < s.size
    · have hb := byteAt_bd s i
      have e0 : IntKind.wrap .i64 (byteAt s i) = byteAt s i := w64 (by omega) (by omega)
      have ed : Int.tdiv (byteAt s i) 16 = byteAt s i / 16 := Int.tdiv_eq_ediv_of_nonneg hb.1
      have em : Int.tmod (byteAt s i) 16 = byteAt s i % 16 := Int.tmod_eq_emod_of_nonneg hb.1
      have e1 : IntKind.wrap .i64 (byteAt s i / 16) = byteAt s i / 16 := w64 (by omega) (by omega)
      have e2 : IntKind.wrap .i64 ((i : Int) + 1) = ((i + 1 : Nat) : Int) := by rw [w64 (by omega) (by omega)]; simp
      rw [br_true (by simpa using h)]
      simp only [Int.toNat_natCast, e0, ed, em, e1, e2]
      rw [grd_true (by simp; omega), grd_true (by simp; omega), grd_true (by simp; omega), grd_true (by simp; omega), grd_true (by simp [hexR_len, maxRows]; omega)]
      exact loop12 s hs k K m (i + 1) (by omega) (by omega)
    · rw [br_false (by simpa using h)]
      have : i = s.size := by omega
      subst this
      rfl

def go12 : List AV → List Blk → Kont → Bool
  | [.one (.str s)], B, K => K [.one (.str (hexT s))] B
  | _, _, _ => false
def go45 : List AV → List Blk → Kont → Bool
  | [.one (.str s)], B, K => grd (decide (s.size ≤ 64)) (K [.one (.str (hexS s))] B)
  | _, _, _ => false

noncomputable def E1 : Env := E0.add 12 ⟨true, go12⟩
theorem E1_ok : EnvOk E1 := by
  refine (EnvOk.base _ _).put hm 12 go12 (fun args K h => ?_)
  unfold go12 at h
  split at h
  · rename_i s
    refine ⟨s.size + 1, 9, ?_⟩
    refine (f12_start s (s.size + 1) (clean _)).trans ?_
    unfold hexT hexS at h
    by_cases h1 : (64 : Int) < (s.size : Int)
    · rw [br_true (by simpa using h1)] at h ⊢; exact h
    · rw [br_false (by simpa using h1)] at h ⊢
      cases h2 : (s == ByteArray.mk #[]) with
      | true => rw [h2] at h; exact h
      | false =>
        rw [h2] at h
        rw [br_false rfl] at h ⊢
        rw [show ([] : List (List AC)) = hexR s 0 from rfl]
        rw [show (0 : Int) = ((0 : Nat) : Int) from rfl, loop12 s (by omega) _ _ _ 0 (by omega) (by omega)]
        exact h
  · cases h
end Go.X
