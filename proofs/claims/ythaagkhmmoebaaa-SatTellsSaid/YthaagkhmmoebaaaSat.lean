/-
  Package sat and the document's answer sounderref01: what each function returns, of all numbers.
  Conditions: none; of the memory that was there nothing turns.
-/
import Derived.Test.YthaagkhmmoebaaaSpec
import Derived.Test.YthaagkhmmoebaaaBits
namespace Go.Proofs.Ythaagkhmmoebaaa
open Go.RowKit Go.Sort

theorem clamp_same (n lo hi : Int) (w : World) :
    Calls Try.prog 37 #[.int .i64 n, .int .i64 lo, .int .i64 hi] w fun e w' => e = .returned (.int .i64 (max lo (min n hi))) ∧ w = w' := by
  go_enter Try.func37, Try.ntmps37
  go_wp2
  go_ret
  exact ⟨rfl, rfl⟩

theorem clamp_any (n lo hi : Int) (w : World) :
    Calls Try.prog 37 #[.int .i64 n, .int .i64 lo, .int .i64 hi] w fun e w' => e = .returned (.int .i64 (max lo (min n hi))) ∧ Below w.heap.size w w' := same_below (clamp_same n lo hi w)

theorem clampu_same (n lo hi : Int) (w : World) :
    Calls Try.prog 47 #[.int .u64 n, .int .u64 lo, .int .u64 hi] w fun e w' => e = .returned (.int .u64 (max lo (min n hi))) ∧ w = w' := by
  go_enter Try.func47, Try.ntmps47
  go_wp2
  go_ret
  exact ⟨rfl, rfl⟩

theorem clampu_any (n lo hi : Int) (w : World) :
    Calls Try.prog 47 #[.int .u64 n, .int .u64 lo, .int .u64 hi] w fun e w' => e = .returned (.int .u64 (max lo (min n hi))) ∧ Below w.heap.size w w' := same_below (clampu_same n lo hi w)

theorem num_same (n : Int) (w : World) :
    Calls Try.prog 12 #[.int .i64 n] w fun e w' => e = .returned (.int .i64 (Sat.num n)) ∧ w = w' := by
  go_enter Try.func12, Try.ntmps12
  go_wp2_with (go_at_call 37; (with_reducible refine (clamp_same _ _ _ _).mono ?_); rintro e w1 ⟨rfl, rfl⟩)
  go_ret
  exact ⟨rfl, rfl⟩

theorem num_any (n : Int) (w : World) :
    Calls Try.prog 12 #[.int .i64 n] w fun e w' => e = .returned (.int .i64 (Sat.num n)) ∧ Below w.heap.size w w' := same_below (num_same n w)

theorem rnum_same (n : Int) (w : World) :
    Calls Try.prog 13 #[.int .i64 n] w fun e w' => e = .returned (.int .i64 (Sat.num n)) ∧ w = w' := by
  go_enter Try.func13, Try.ntmps13
  go_wp2
  go_ret
  exact ⟨rfl, rfl⟩

theorem rnum_any (n : Int) (w : World) :
    Calls Try.prog 13 #[.int .i64 n] w fun e w' => e = .returned (.int .i64 (Sat.num n)) ∧ Below w.heap.size w w' := same_below (rnum_same n w)

theorem is_same (n : Int) (w : World) :
    Calls Try.prog 10 #[.int .i64 n] w fun e w' => e = .returned (.bool (Sat.isN n)) ∧ w = w' := by
  go_enter Try.func10, Try.ntmps10
  go_wp2_with (go_at_call 12; (with_reducible refine (num_same _ _).mono ?_); rintro e w1 ⟨rfl, rfl⟩)
  go_ret
  exact ⟨rb (Sat.isN_num n).symm, rfl⟩

theorem is_any (n : Int) (w : World) :
    Calls Try.prog 10 #[.int .i64 n] w fun e w' => e = .returned (.bool (Sat.isN n)) ∧ Below w.heap.size w w' := same_below (is_same n w)

theorem ris_same (n : Int) (w : World) :
    Calls Try.prog 11 #[.int .i64 n] w fun e w' => e = .returned (.bool (Sat.isN n)) ∧ w = w' := by
  by_cases h : 0 ≤ n
  · go_enter Try.func11, Try.ntmps11
    go_wp2
    go_ret
    exact ⟨rb (by simp [Sat.isN, h]), rfl⟩
  · go_enter Try.func11, Try.ntmps11
    go_wp2
    go_ret
    exact ⟨rb (by simp [Sat.isN]; omega), rfl⟩

theorem ris_any (n : Int) (w : World) :
    Calls Try.prog 11 #[.int .i64 n] w fun e w' => e = .returned (.bool (Sat.isN n)) ∧ Below w.heap.size w w' := same_below (ris_same n w)

theorem add_same (a b : Int) (w : World) :
    Calls Try.prog 14 #[.int .i64 a, .int .i64 b] w fun e w' => e = .returned (.int .i64 (Sat.add a b)) ∧ w = w' := by
  have a0 := Sat.num_lo a
  have a1 := Sat.num_hi a
  have b0 := Sat.num_lo b
  have b1 := Sat.num_hi b
  go_enter Try.func14, Try.ntmps14
  go_wp2_with (go_at_call 12; (with_reducible refine (num_same _ _).mono ?_); rintro e w1 ⟨rfl, rfl⟩)
  go_ret
  exact ⟨rfl, rfl⟩

theorem add_any (a b : Int) (w : World) :
    Calls Try.prog 14 #[.int .i64 a, .int .i64 b] w fun e w' => e = .returned (.int .i64 (Sat.add a b)) ∧ Below w.heap.size w w' := same_below (add_same a b w)

theorem radd_same (a b : Int) (w : World) :
    Calls Try.prog 15 #[.int .i64 a, .int .i64 b] w fun e w' => e = .returned (.int .i64 (Sat.add a b)) ∧ w = w' := by
  have a0 := Sat.num_lo a
  have a1 := Sat.num_hi a
  have b0 := Sat.num_lo b
  have b1 := Sat.num_hi b
  go_enter Try.func15, Try.ntmps15
  go_wp2_with (go_at_call 13; (with_reducible refine (rnum_same _ _).mono ?_); rintro e w1 ⟨rfl, rfl⟩)
  go_ret
  exact ⟨rfl, rfl⟩

theorem radd_any (a b : Int) (w : World) :
    Calls Try.prog 15 #[.int .i64 a, .int .i64 b] w fun e w' => e = .returned (.int .i64 (Sat.add a b)) ∧ Below w.heap.size w w' := same_below (radd_same a b w)

theorem sub_same (a b : Int) (w : World) :
    Calls Try.prog 16 #[.int .i64 a, .int .i64 b] w fun e w' => e = .returned (.int .i64 (Sat.sub a b)) ∧ w = w' := by
  have a0 := Sat.num_lo a
  have a1 := Sat.num_hi a
  have b0 := Sat.num_lo b
  have b1 := Sat.num_hi b
  go_enter Try.func16, Try.ntmps16
  go_wp2_with (go_at_call 12; (with_reducible refine (num_same _ _).mono ?_); rintro e w1 ⟨rfl, rfl⟩)
  go_ret
  exact ⟨rfl, rfl⟩

theorem sub_any (a b : Int) (w : World) :
    Calls Try.prog 16 #[.int .i64 a, .int .i64 b] w fun e w' => e = .returned (.int .i64 (Sat.sub a b)) ∧ Below w.heap.size w w' := same_below (sub_same a b w)

theorem rsub_same (a b : Int) (w : World) :
    Calls Try.prog 17 #[.int .i64 a, .int .i64 b] w fun e w' => e = .returned (.int .i64 (Sat.sub a b)) ∧ w = w' := by
  have a0 := Sat.num_lo a
  have a1 := Sat.num_hi a
  have b0 := Sat.num_lo b
  have b1 := Sat.num_hi b
  go_enter Try.func17, Try.ntmps17
  go_wp2_with (go_at_call 13; (with_reducible refine (rnum_same _ _).mono ?_); rintro e w1 ⟨rfl, rfl⟩)
  go_ret
  exact ⟨rfl, rfl⟩

theorem rsub_any (a b : Int) (w : World) :
    Calls Try.prog 17 #[.int .i64 a, .int .i64 b] w fun e w' => e = .returned (.int .i64 (Sat.sub a b)) ∧ Below w.heap.size w w' := same_below (rsub_same a b w)

theorem back_same (n : Int) (h0 : 0 ≤ n) (w : World) :
    Calls Try.prog 40 #[.int .u64 n] w fun e w' => e = .returned (.int .i64 (min n 9007199254740991)) ∧ w = w' := by
  have e : max 0 (min n 9007199254740991) = min n 9007199254740991 := by omega
  have e2 : IntKind.i64.wrap (min n 9007199254740991) = min n 9007199254740991 := IntWalk.i64_in _ (by omega)
  go_enter Try.func40, Try.ntmps40
  go_wp2_with (go_at_call 47; (with_reducible refine (clampu_same _ _ _ _).mono ?_); rintro e w1 ⟨rfl, rfl⟩)
  go_ret
  exact ⟨rfl, rfl⟩

theorem back_any (n : Int) (h0 : 0 ≤ n) (w : World) :
    Calls Try.prog 40 #[.int .u64 n] w fun e w' => e = .returned (.int .i64 (min n 9007199254740991)) ∧ Below w.heap.size w w' := same_below (back_same n h0 w)

theorem istime_same (n : Int) (w : World) :
    Calls Try.prog 29 #[.int .i64 n] w fun e w' => e = .returned (.bool (Sat.isT n)) ∧ w = w' := by
  by_cases h : n = -1
  · subst h
    go_enter Try.func29, Try.ntmps29
    go_wp2_with (go_at_call 10; (with_reducible refine (is_same _ _).mono ?_); rintro e w1 ⟨rfl, rfl⟩)
    go_ret
    exact ⟨rb (by decide), rfl⟩
  · have h1 : (n == -1) = false := by simpa using h
    go_enter Try.func29, Try.ntmps29
    go_wp2_with (go_at_call 10; (with_reducible refine (is_same _ _).mono ?_); rintro e w1 ⟨rfl, rfl⟩)
    go_ret
    exact ⟨rb (by simp [Sat.isT, h1]), rfl⟩

theorem istime_any (n : Int) (w : World) :
    Calls Try.prog 29 #[.int .i64 n] w fun e w' => e = .returned (.bool (Sat.isT n)) ∧ Below w.heap.size w w' := same_below (istime_same n w)

theorem ristime_same (n : Int) (w : World) :
    Calls Try.prog 30 #[.int .i64 n] w fun e w' => e = .returned (.bool (Sat.isT n)) ∧ w = w' := by
  by_cases h : n = -1
  · subst h
    go_enter Try.func30, Try.ntmps30
    go_wp2_with (go_at_call 11; (with_reducible refine (ris_same _ _).mono ?_); rintro e w1 ⟨rfl, rfl⟩)
    go_ret
    exact ⟨rb (by decide), rfl⟩
  · have h1 : (n == -1) = false := by simpa using h
    go_enter Try.func30, Try.ntmps30
    go_wp2_with (go_at_call 11; (with_reducible refine (ris_same _ _).mono ?_); rintro e w1 ⟨rfl, rfl⟩)
    go_ret
    exact ⟨rb (by simp [Sat.isT, h1]), rfl⟩

theorem ristime_any (n : Int) (w : World) :
    Calls Try.prog 30 #[.int .i64 n] w fun e w' => e = .returned (.bool (Sat.isT n)) ∧ Below w.heap.size w w' := same_below (ristime_same n w)

end Go.Proofs.Ythaagkhmmoebaaa
