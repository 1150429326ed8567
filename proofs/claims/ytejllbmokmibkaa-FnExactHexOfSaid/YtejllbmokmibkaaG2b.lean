/- Steps of the functions that a law of this seat reaches, and what they come to, for all arguments of the shapes that are named. -/
import Derived.Test.YtejllbmokmibkaaG2
namespace Go.X
open Go

noncomputable def L45_5 (k m : Nat) (K : Kont) (st : St) : Bool := iter E1.P 0 (exC E1 (run E1 k 9) 0 45 k (fstC (fstC (sndC (fstC (sndC (sndC (sndC (bodyC E1.P 45))))))))) [0, 3, 9, 10] m st (kBlk 0 (kSeq (exC E1 (run E1 k 9) 0 45 k (sndC (sndC (sndC (sndC (bodyC E1.P 45)))))) (kBody E1.P (resC E1.P 45) K)))
theorem L45_5_step (s : ByteArray) (i10 : Int) (r0 : List (List AC)) (k m : Nat) (K : Kont) : L45_5 k (m + 1) K ⟨[(0, AV.one (AC.str s)), (3, AV.one (AC.own 0)), (9, AV.one (AC.int .i64 (s.size : Int))), (10, AV.one (AC.int .i64 i10))], [Blk.rows 5 r0]⟩ =
  br ((decide ((i10 : Int) < (s.size : Int))))
    (grd ((decide (0 ≤ i10) && decide (i10 < (s.size : Int)))) (grd ((decide (0 ≤ (IntKind.wrap .u8 (Int.tdiv (byteAt s (Int.toNat i10)) 16))) && decide ((IntKind.wrap .u8 (Int.tdiv (byteAt s (Int.toNat i10)) 16)) < 16))) (grd ((decide (0 ≤ i10) && decide (i10 < (s.size : Int)))) (grd ((decide (0 ≤ (Int.tmod (byteAt s (Int.toNat i10)) 16)) && decide ((Int.tmod (byteAt s (Int.toNat i10)) 16) < 16))) (grd ((decide (((r0).length + 2) * 1 ≤ maxRows))) (L45_5 k m K ⟨[(0, AV.one (AC.str s)), (3, AV.one (AC.own 0)), (9, AV.one (AC.int .i64 (s.size : Int))), (10, AV.one (AC.int .i64 (IntKind.wrap .i64 (i10 + 1))))], [Blk.rows 5 (r0 ++ [[AC.int .u8 (byteAt (ByteArray.mk #[48, 49, 50, 51, 52, 53, 54, 55, 56, 57, 97, 98, 99, 100, 101, 102]) (Int.toNat (IntKind.wrap .u8 (Int.tdiv (byteAt s (Int.toNat i10)) 16))))], [AC.int .u8 (byteAt (ByteArray.mk #[48, 49, 50, 51, 52, 53, 54, 55, 56, 57, 97, 98, 99, 100, 101, 102]) (Int.toNat (Int.tmod (byteAt s (Int.toNat i10)) 16)))]])]⟩))))))
    (K [AV.one (AC.str (rowsStr r0))] [Blk.rows 5 r0]) := by kernel_rfl
theorem f45_start (s : ByteArray) (k : Nat) (K : Kont) : bodyA E1 (run E1 k 9) 45 k [AV.one (AC.str s)] [] K =
  br ((s == (ByteArray.mk #[])))
    (K [AV.one (AC.str (ByteArray.mk #[45]))] [])
    (L45_5 k k K ⟨[(0, AV.one (AC.str s)), (3, AV.one (AC.own 0)), (9, AV.one (AC.int .i64 (s.size : Int))), (10, AV.one (AC.int .i64 0))], [Blk.rows 5 []]⟩) := by kernel_rfl
end Go.X
