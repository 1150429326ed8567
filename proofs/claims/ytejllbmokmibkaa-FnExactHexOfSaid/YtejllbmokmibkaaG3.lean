/- Steps of the functions that a law of this seat reaches, and what they come to, for all arguments of the shapes that are named. -/
import Derived.Test.YtejllbmokmibkaaG2c
namespace Go.X
open Go

theorem f3_start (s : ByteArray) (k : Nat) (K : Kont) : bodyA E2 (run E2 k 9) 3 k [AV.one (AC.str s)] [] K =
  br ((decide ((1048576 : Int) < (s.size : Int))))
    (K [AV.one (AC.bool true)] [])
    (br ((decide ((64 : Int) < (s.size : Int))))
      (br ((!((ByteArray.mk #[]) == (hexT s))))
        (K [AV.one (AC.bool false)] [])
        (K [AV.one (AC.bool true)] []))
      (grd ((decide (s.size ≤ 64))) (br ((!((hexS s) == (hexT s))))
        (K [AV.one (AC.bool false)] [])
        (K [AV.one (AC.bool true)] [])))) := by kernel_rfl
end Go.X
