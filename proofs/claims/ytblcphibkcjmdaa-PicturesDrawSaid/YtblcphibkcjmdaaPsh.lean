/-
  The contract of math/bits.Mul at this program, laid by the kit's shelf.
-/
import Derived.Shelf.Bits.Mul64
import Derived.Test.YtblcphibkcjmdaaPb
namespace Go.Proofs.Ytblcphibkcjmdaa
open Go.Shelf
def mul64_ren : Go.Shelf.Ren := ⟨fun | 264 => 50 | n => n, fun | 53 => 95 | 46 => 87 | n => n, fun | n => n⟩
theorem mul64_lays : Go.Proofs.Lays.n264 Try.prog mul64_ren := {
  mixed := by kernel_rfl
  f264 := Try.func50.trans (congrArg some (by kernel_rfl))
  t46 := Try.underlying87
  a46 := Try.isAgg87
  z46 := Try.sizeOf87
  v46 := Try.zeroValue87
  t53 := Try.underlying95
  a53 := Try.isAgg95
  z53 := Try.sizeOf95
  v53 := Try.zeroValue95 }
open Go.RowKit Go.Lib in
theorem bits_Mul64 (x y : Nat) (hx : x < 18446744073709551616) (hy : y < 18446744073709551616) (w : World) :
    Calls Try.prog 50 #[.int .u64 x, .int .u64 y] w fun e w' => e = .returned (.tuple #[.int .u64 ((x * y / 18446744073709551616 : Nat) : Int), .int .u64 ((x * y % 18446744073709551616 : Nat) : Int)]) ∧ w' = w := Any.bits_Mul64 mul64_lays x y hx hy w

set_option maxRecDepth 20000 in
set_option maxHeartbeats 1000000 in
open Go.RowKit in
theorem bits_Mul (x y : Nat) (hx : x ≤ 1000000) (hy : y ≤ 1000000) (w : World) :
    Calls Try.prog 47 #[.int .u64 x, .int .u64 y] w fun e w' => e = .returned (.tuple #[.int .u64 0, .int .u64 ((x * y : Nat) : Int)]) ∧ w = w' := by
  have h : x * y ≤ 1000000 * 1000000 := Nat.mul_le_mul hx hy
  have e1 : x * y / 18446744073709551616 = 0 := Nat.div_eq_of_lt (by omega)
  have e2 : x * y % 18446744073709551616 = x * y := Nat.mod_eq_of_lt (by omega)
  have hc := bits_Mul64 x y (by omega) (by omega) w
  rw [e1, e2] at hc
  have HC := Lib.hid hc
  clear hc e1 e2
  generalize x * y = p at *
  go_enter Try.func47, Try.ntmps47
  go_wp2_with fail
  refine (HC.out).mono ?_; rintro e w' ⟨rfl, rfl⟩
  go_wp2
  go_ret2
  exact ⟨rfl, rfl⟩

end Go.Proofs.Ytblcphibkcjmdaa
