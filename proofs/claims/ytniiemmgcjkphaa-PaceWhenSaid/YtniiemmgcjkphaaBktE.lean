/-
  math/bits.Add64, Sub64: what a call yields, in integers.
-/
import Derived.Test.YtniiemmgcjkphaaBktD
import Derived.Test.YtniiemmgcjkphaaBktW
import Derived.Shelf.Spec.BitsCarry
namespace Go.Proofs.Ytniiemmgcjkphaa
open Go.RowKit Go.Sort

theorem add64_run (x y : Int) (hx : 0 ≤ x) (hy : 0 ≤ y) (w : World) :
    (callFunc 61 #[.int .u64 x, .int .u64 y, .int .u64 0]).run Try.prog w =
      .ok (.value (.tuple #[.int .u64 ((x + y) % 18446744073709551616), .int .u64 ((x + y) / 18446744073709551616)])) w := by
  rw [run_callFunc_extern Try.func61 (by kernel_rfl) (by kernel_rfl) (by kernel_rfl) (e := add64Entry) (by kernel_rfl), run_add64 (P := Try.prog) x y 0 hx hy (by omega) (by omega) w, Int.add_zero]
  rfl
theorem sub64_nat (x y : Nat) (w : World) :
    (callFunc 60 #[.int .u64 x, .int .u64 y, .int .u64 0]).run Try.prog w =
      .ok (.value (.tuple #[.int .u64 (((x + 18446744073709551616 - y - 0) % 18446744073709551616 : Nat) : Int), .int .u64 ((if x < y + 0 then 1 else 0 : Nat) : Int)])) w := by
  rw [run_callFunc_extern Try.func60 (by kernel_rfl) (by kernel_rfl) (by kernel_rfl) (e := sub64Entry) (by kernel_rfl), show ((0 : Int)) = ((0 : Nat) : Int) from rfl, run_sub64 x y 0 (by omega)]
  rfl
theorem sub64_run (x y : Int) (hx : 0 ≤ x) (hy : 0 ≤ y) (hy1 : y ≤ 18446744073709551615) (w : World) :
    (callFunc 60 #[.int .u64 x, .int .u64 y, .int .u64 0]).run Try.prog w =
      .ok (.value (.tuple #[.int .u64 ((x - y) % 18446744073709551616), .int .u64 (if x < y then 1 else 0)])) w := by
  obtain ⟨a, rfl⟩ := Int.eq_ofNat_of_zero_le hx
  obtain ⟨b, rfl⟩ := Int.eq_ofNat_of_zero_le hy
  rw [sub64_nat]
  have e1 : (((a + 18446744073709551616 - b - 0) % 18446744073709551616 : Nat) : Int) = ((a : Int) - b) % 18446744073709551616 := by omega
  have e2 : ((if a < b + 0 then 1 else 0 : Nat) : Int) = if (a : Int) < b then 1 else 0 := by
    by_cases h : a < b
    · rw [if_pos (by omega), if_pos (by omega)]; rfl
    · rw [if_neg (by omega), if_neg (by omega)]; rfl
  rw [e1, e2]
end Go.Proofs.Ytniiemmgcjkphaa
