/-
  Package sat and the document's answer sounderref01: what each function returns, of all numbers.
  Conditions: none; of the memory that was there nothing turns.
-/
import Derived.Test.YthlpjpcmbpbplaaSpec
import Derived.Test.YthlpjpcmbpbplaaBits
namespace Go.Proofs.Ythlpjpcmbpbplaa
open Go.RowKit Go.Sort

theorem clamp_same (n lo hi : Int) (w : World) :
    Calls Try.prog 42 #[.int .i64 n, .int .i64 lo, .int .i64 hi] w fun e w' => e = .returned (.int .i64 (max lo (min n hi))) ∧ w = w' := by
  go_enter Try.func42, Try.ntmps42
  go_wp2
  go_ret
  exact ⟨rfl, rfl⟩

theorem clamp_any (n lo hi : Int) (w : World) :
    Calls Try.prog 42 #[.int .i64 n, .int .i64 lo, .int .i64 hi] w fun e w' => e = .returned (.int .i64 (max lo (min n hi))) ∧ Below w.heap.size w w' := same_below (clamp_same n lo hi w)

theorem clampu_same (n lo hi : Int) (w : World) :
    Calls Try.prog 50 #[.int .u64 n, .int .u64 lo, .int .u64 hi] w fun e w' => e = .returned (.int .u64 (max lo (min n hi))) ∧ w = w' := by
  go_enter Try.func50, Try.ntmps50
  go_wp2
  go_ret
  exact ⟨rfl, rfl⟩

theorem clampu_any (n lo hi : Int) (w : World) :
    Calls Try.prog 50 #[.int .u64 n, .int .u64 lo, .int .u64 hi] w fun e w' => e = .returned (.int .u64 (max lo (min n hi))) ∧ Below w.heap.size w w' := same_below (clampu_same n lo hi w)

theorem num_same (n : Int) (w : World) :
    Calls Try.prog 37 #[.int .i64 n] w fun e w' => e = .returned (.int .i64 (Sat.num n)) ∧ w = w' := by
  go_enter Try.func37, Try.ntmps37
  go_wp2_with (go_at_call 42; (with_reducible refine (clamp_same _ _ _ _).mono ?_); rintro e w1 ⟨rfl, rfl⟩)
  go_ret
  exact ⟨rfl, rfl⟩

theorem num_any (n : Int) (w : World) :
    Calls Try.prog 37 #[.int .i64 n] w fun e w' => e = .returned (.int .i64 (Sat.num n)) ∧ Below w.heap.size w w' := same_below (num_same n w)

theorem rnum_same (n : Int) (w : World) :
    Calls Try.prog 38 #[.int .i64 n] w fun e w' => e = .returned (.int .i64 (Sat.num n)) ∧ w = w' := by
  go_enter Try.func38, Try.ntmps38
  go_wp2
  go_ret
  exact ⟨rfl, rfl⟩

theorem rnum_any (n : Int) (w : World) :
    Calls Try.prog 38 #[.int .i64 n] w fun e w' => e = .returned (.int .i64 (Sat.num n)) ∧ Below w.heap.size w w' := same_below (rnum_same n w)

theorem add_same (a b : Int) (w : World) :
    Calls Try.prog 30 #[.int .i64 a, .int .i64 b] w fun e w' => e = .returned (.int .i64 (Sat.add a b)) ∧ w = w' := by
  have a0 := Sat.num_lo a
  have a1 := Sat.num_hi a
  have b0 := Sat.num_lo b
  have b1 := Sat.num_hi b
  go_enter Try.func30, Try.ntmps30
  go_wp2_with (go_at_call 37; (with_reducible refine (num_same _ _).mono ?_); rintro e w1 ⟨rfl, rfl⟩)
  go_ret
  exact ⟨rfl, rfl⟩

theorem add_any (a b : Int) (w : World) :
    Calls Try.prog 30 #[.int .i64 a, .int .i64 b] w fun e w' => e = .returned (.int .i64 (Sat.add a b)) ∧ Below w.heap.size w w' := same_below (add_same a b w)

theorem radd_same (a b : Int) (w : World) :
    Calls Try.prog 32 #[.int .i64 a, .int .i64 b] w fun e w' => e = .returned (.int .i64 (Sat.add a b)) ∧ w = w' := by
  have a0 := Sat.num_lo a
  have a1 := Sat.num_hi a
  have b0 := Sat.num_lo b
  have b1 := Sat.num_hi b
  go_enter Try.func32, Try.ntmps32
  go_wp2_with (go_at_call 38; (with_reducible refine (rnum_same _ _).mono ?_); rintro e w1 ⟨rfl, rfl⟩)
  go_ret
  exact ⟨rfl, rfl⟩

theorem radd_any (a b : Int) (w : World) :
    Calls Try.prog 32 #[.int .i64 a, .int .i64 b] w fun e w' => e = .returned (.int .i64 (Sat.add a b)) ∧ Below w.heap.size w w' := same_below (radd_same a b w)

theorem sub_same (a b : Int) (w : World) :
    Calls Try.prog 35 #[.int .i64 a, .int .i64 b] w fun e w' => e = .returned (.int .i64 (Sat.sub a b)) ∧ w = w' := by
  have a0 := Sat.num_lo a
  have a1 := Sat.num_hi a
  have b0 := Sat.num_lo b
  have b1 := Sat.num_hi b
  go_enter Try.func35, Try.ntmps35
  go_wp2_with (go_at_call 37; (with_reducible refine (num_same _ _).mono ?_); rintro e w1 ⟨rfl, rfl⟩)
  go_ret
  exact ⟨rfl, rfl⟩

theorem sub_any (a b : Int) (w : World) :
    Calls Try.prog 35 #[.int .i64 a, .int .i64 b] w fun e w' => e = .returned (.int .i64 (Sat.sub a b)) ∧ Below w.heap.size w w' := same_below (sub_same a b w)

theorem rsub_same (a b : Int) (w : World) :
    Calls Try.prog 39 #[.int .i64 a, .int .i64 b] w fun e w' => e = .returned (.int .i64 (Sat.sub a b)) ∧ w = w' := by
  have a0 := Sat.num_lo a
  have a1 := Sat.num_hi a
  have b0 := Sat.num_lo b
  have b1 := Sat.num_hi b
  go_enter Try.func39, Try.ntmps39
  go_wp2_with (go_at_call 38; (with_reducible refine (rnum_same _ _).mono ?_); rintro e w1 ⟨rfl, rfl⟩)
  go_ret
  exact ⟨rfl, rfl⟩

theorem rsub_any (a b : Int) (w : World) :
    Calls Try.prog 39 #[.int .i64 a, .int .i64 b] w fun e w' => e = .returned (.int .i64 (Sat.sub a b)) ∧ Below w.heap.size w w' := same_below (rsub_same a b w)

theorem back_same (n : Int) (h0 : 0 ≤ n) (w : World) :
    Calls Try.prog 45 #[.int .u64 n] w fun e w' => e = .returned (.int .i64 (min n 9007199254740991)) ∧ w = w' := by
  have e : max 0 (min n 9007199254740991) = min n 9007199254740991 := by omega
  have e2 : IntKind.i64.wrap (min n 9007199254740991) = min n 9007199254740991 := IntWalk.i64_in _ (by omega)
  go_enter Try.func45, Try.ntmps45
  go_wp2_with (go_at_call 50; (with_reducible refine (clampu_same _ _ _ _).mono ?_); rintro e w1 ⟨rfl, rfl⟩)
  go_ret
  exact ⟨rfl, rfl⟩

theorem back_any (n : Int) (h0 : 0 ≤ n) (w : World) :
    Calls Try.prog 45 #[.int .u64 n] w fun e w' => e = .returned (.int .i64 (min n 9007199254740991)) ∧ Below w.heap.size w w' := same_below (back_same n h0 w)

end Go.Proofs.Ythlpjpcmbpbplaa
