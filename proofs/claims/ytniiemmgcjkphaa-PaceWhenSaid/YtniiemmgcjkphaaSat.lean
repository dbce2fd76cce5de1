/-
  Package sat and the document's answer sounderref01: what each function returns, of all numbers.
  Conditions: none; of the memory that was there nothing turns.
-/
import Derived.Test.YtniiemmgcjkphaaSpec
import Derived.Test.YtniiemmgcjkphaaBits
namespace Go.Proofs.Ytniiemmgcjkphaa
open Go.RowKit Go.Sort

theorem clamp_same (n lo hi : Int) (w : World) :
    Calls Try.prog 82 #[.int .i64 n, .int .i64 lo, .int .i64 hi] w fun e w' => e = .returned (.int .i64 (max lo (min n hi))) ∧ w = w' := by
  go_enter Try.func82, Try.ntmps82
  go_wp2
  go_ret
  exact ⟨rfl, rfl⟩

theorem clamp_any (n lo hi : Int) (w : World) :
    Calls Try.prog 82 #[.int .i64 n, .int .i64 lo, .int .i64 hi] w fun e w' => e = .returned (.int .i64 (max lo (min n hi))) ∧ Below w.heap.size w w' := same_below (clamp_same n lo hi w)

theorem num_same (n : Int) (w : World) :
    Calls Try.prog 76 #[.int .i64 n] w fun e w' => e = .returned (.int .i64 (Sat.num n)) ∧ w = w' := by
  go_enter Try.func76, Try.ntmps76
  go_wp2_with (go_at_call 82; (with_reducible refine (clamp_same _ _ _ _).mono ?_); rintro e w1 ⟨rfl, rfl⟩)
  go_ret
  exact ⟨rfl, rfl⟩

theorem num_any (n : Int) (w : World) :
    Calls Try.prog 76 #[.int .i64 n] w fun e w' => e = .returned (.int .i64 (Sat.num n)) ∧ Below w.heap.size w w' := same_below (num_same n w)

theorem rnum_same (n : Int) (w : World) :
    Calls Try.prog 80 #[.int .i64 n] w fun e w' => e = .returned (.int .i64 (Sat.num n)) ∧ w = w' := by
  go_enter Try.func80, Try.ntmps80
  go_wp2
  go_ret
  exact ⟨rfl, rfl⟩

theorem rnum_any (n : Int) (w : World) :
    Calls Try.prog 80 #[.int .i64 n] w fun e w' => e = .returned (.int .i64 (Sat.num n)) ∧ Below w.heap.size w w' := same_below (rnum_same n w)

theorem is_same (n : Int) (w : World) :
    Calls Try.prog 49 #[.int .i64 n] w fun e w' => e = .returned (.bool (Sat.isN n)) ∧ w = w' := by
  go_enter Try.func49, Try.ntmps49
  go_wp2_with (go_at_call 76; (with_reducible refine (num_same _ _).mono ?_); rintro e w1 ⟨rfl, rfl⟩)
  go_ret
  exact ⟨rb (Sat.isN_num n).symm, rfl⟩

theorem is_any (n : Int) (w : World) :
    Calls Try.prog 49 #[.int .i64 n] w fun e w' => e = .returned (.bool (Sat.isN n)) ∧ Below w.heap.size w w' := same_below (is_same n w)

theorem ris_same (n : Int) (w : World) :
    Calls Try.prog 55 #[.int .i64 n] w fun e w' => e = .returned (.bool (Sat.isN n)) ∧ w = w' := by
  by_cases h : 0 ≤ n
  · go_enter Try.func55, Try.ntmps55
    go_wp2
    go_ret
    exact ⟨rb (by simp [Sat.isN, h]), rfl⟩
  · go_enter Try.func55, Try.ntmps55
    go_wp2
    go_ret
    exact ⟨rb (by simp [Sat.isN]; omega), rfl⟩

theorem ris_any (n : Int) (w : World) :
    Calls Try.prog 55 #[.int .i64 n] w fun e w' => e = .returned (.bool (Sat.isN n)) ∧ Below w.heap.size w w' := same_below (ris_same n w)

theorem add_same (a b : Int) (w : World) :
    Calls Try.prog 78 #[.int .i64 a, .int .i64 b] w fun e w' => e = .returned (.int .i64 (Sat.add a b)) ∧ w = w' := by
  have a0 := Sat.num_lo a
  have a1 := Sat.num_hi a
  have b0 := Sat.num_lo b
  have b1 := Sat.num_hi b
  go_enter Try.func78, Try.ntmps78
  go_wp2_with (go_at_call 76; (with_reducible refine (num_same _ _).mono ?_); rintro e w1 ⟨rfl, rfl⟩)
  go_ret
  exact ⟨rfl, rfl⟩

theorem add_any (a b : Int) (w : World) :
    Calls Try.prog 78 #[.int .i64 a, .int .i64 b] w fun e w' => e = .returned (.int .i64 (Sat.add a b)) ∧ Below w.heap.size w w' := same_below (add_same a b w)

theorem radd_same (a b : Int) (w : World) :
    Calls Try.prog 58 #[.int .i64 a, .int .i64 b] w fun e w' => e = .returned (.int .i64 (Sat.add a b)) ∧ w = w' := by
  have a0 := Sat.num_lo a
  have a1 := Sat.num_hi a
  have b0 := Sat.num_lo b
  have b1 := Sat.num_hi b
  go_enter Try.func58, Try.ntmps58
  go_wp2_with (go_at_call 80; (with_reducible refine (rnum_same _ _).mono ?_); rintro e w1 ⟨rfl, rfl⟩)
  go_ret
  exact ⟨rfl, rfl⟩

theorem radd_any (a b : Int) (w : World) :
    Calls Try.prog 58 #[.int .i64 a, .int .i64 b] w fun e w' => e = .returned (.int .i64 (Sat.add a b)) ∧ Below w.heap.size w w' := same_below (radd_same a b w)

end Go.Proofs.Ytniiemmgcjkphaa
