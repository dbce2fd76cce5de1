/-
  Package sat and the document's answer sounderref01: what each function returns, of all numbers.
  Conditions: none; of the memory that was there nothing turns.
-/
import Derived.Test.YtpagdcobhbkabaaDoorSpec
import Derived.Test.YtpagdcobhbkabaaDoorBits
namespace Go.Proofs.YtpagdcobhbkabaaDoor
open Go.RowKit Go.Sort

theorem clamp_same (n lo hi : Int) (w : World) :
    Calls Tryd.prog 80 #[.int .i64 n, .int .i64 lo, .int .i64 hi] w fun e w' => e = .returned (.int .i64 (max lo (min n hi))) ∧ w = w' := by
  go_enter Tryd.func80, Tryd.ntmps80
  go_wp2
  go_ret
  exact ⟨rfl, rfl⟩

theorem clamp_any (n lo hi : Int) (w : World) :
    Calls Tryd.prog 80 #[.int .i64 n, .int .i64 lo, .int .i64 hi] w fun e w' => e = .returned (.int .i64 (max lo (min n hi))) ∧ Below w.heap.size w w' := same_below (clamp_same n lo hi w)

theorem clampu_same (n lo hi : Int) (w : World) :
    Calls Tryd.prog 77 #[.int .u64 n, .int .u64 lo, .int .u64 hi] w fun e w' => e = .returned (.int .u64 (max lo (min n hi))) ∧ w = w' := by
  go_enter Tryd.func77, Tryd.ntmps77
  go_wp2
  go_ret
  exact ⟨rfl, rfl⟩

theorem clampu_any (n lo hi : Int) (w : World) :
    Calls Tryd.prog 77 #[.int .u64 n, .int .u64 lo, .int .u64 hi] w fun e w' => e = .returned (.int .u64 (max lo (min n hi))) ∧ Below w.heap.size w w' := same_below (clampu_same n lo hi w)

theorem num_same (n : Int) (w : World) :
    Calls Tryd.prog 78 #[.int .i64 n] w fun e w' => e = .returned (.int .i64 (Sat.num n)) ∧ w = w' := by
  go_enter Tryd.func78, Tryd.ntmps78
  go_wp2_with (go_at_call 80; (with_reducible refine (clamp_same _ _ _ _).mono ?_); rintro e w1 ⟨rfl, rfl⟩)
  go_ret
  exact ⟨rfl, rfl⟩

theorem num_any (n : Int) (w : World) :
    Calls Tryd.prog 78 #[.int .i64 n] w fun e w' => e = .returned (.int .i64 (Sat.num n)) ∧ Below w.heap.size w w' := same_below (num_same n w)

theorem back_same (n : Int) (h0 : 0 ≤ n) (w : World) :
    Calls Tryd.prog 71 #[.int .u64 n] w fun e w' => e = .returned (.int .i64 (min n 9007199254740991)) ∧ w = w' := by
  have e : max 0 (min n 9007199254740991) = min n 9007199254740991 := by omega
  have e2 : IntKind.i64.wrap (min n 9007199254740991) = min n 9007199254740991 := IntWalk.i64_in _ (by omega)
  go_enter Tryd.func71, Tryd.ntmps71
  go_wp2_with (go_at_call 77; (with_reducible refine (clampu_same _ _ _ _).mono ?_); rintro e w1 ⟨rfl, rfl⟩)
  go_ret
  exact ⟨rfl, rfl⟩

end Go.Proofs.YtpagdcobhbkabaaDoor
