/-
  Package sat: products, quotients, rests; times.
-/
import Derived.Test.YthaagkhmmoebaaaSat
namespace Go.Proofs.Ythaagkhmmoebaaa
open Go.RowKit Go.Sort

theorem wrap_num (n : Int) : IntKind.u64.wrap (Sat.num n) = Sat.num n := by
  have h0 := Sat.num_lo n
  have h1 := Sat.num_hi n
  rw [IntKind.wrap_u64]; omega
theorem num_u64 (n : Int) : 0 ≤ Sat.num n ∧ Sat.num n ≤ 18446744073709551615 := by
  have h0 := Sat.num_lo n
  have h1 := Sat.num_hi n
  omega

theorem make3 (w : World) : (Instr.makeSlice 43 (.int .i64 3) (.int .i64 3)).run Try.prog w = .ok (.slice (some ⟨w.heap.size, 0, none⟩) 3 3) (w.alloc (.cells #[.int .u64 0, .int .u64 0, .int .u64 0] 37)) := by kernel_rfl

theorem nums_any (a0 a1 a2 : Int) (b : Nat) (w : World) (c0 : w.cell? ⟨b, 0, none⟩ = some (.int .i64 a0)) (c1 : w.cell? ⟨b, 1, none⟩ = some (.int .i64 a1)) (c2 : w.cell? ⟨b, 2, none⟩ = some (.int .i64 a2)) :
    Calls Try.prog 44 #[.slice (some ⟨b, 0, none⟩) 3 3] w fun e w' => e = .returned (.slice (some ⟨w.heap.size, 0, none⟩) 3 3) ∧ w' = w.alloc (.cells #[.int .u64 (Sat.num a0), .int .u64 (Sat.num a1), .int .u64 (Sat.num a2)] 37) := by
  have hmk := make3
  have z0 := wrap_num a0
  have z1 := wrap_num a1
  have z2 := wrap_num a2
  have hb : b < w.heap.size := block_lt_of_cell c0
  have hne : ¬ b = w.heap.size := by omega
  go_enter Try.func44, Try.ntmps44
  go_wp2_with fail
  refine wp_loop_rounds 4 ?_
  rw [rounds_succ]
  go_wp2_with (go_at_call 12; (with_reducible refine (num_same _ _).mono ?_); rintro e w1 ⟨rfl, rfl⟩)
  rw [rounds_succ]
  go_wp2_with (go_at_call 12; (with_reducible refine (num_same _ _).mono ?_); rintro e w1 ⟨rfl, rfl⟩)
  rw [rounds_succ]
  go_wp2_with (go_at_call 12; (with_reducible refine (num_same _ _).mono ?_); rintro e w1 ⟨rfl, rfl⟩)
  rw [rounds_succ]
  go_wp2_with (go_at_call 12; (with_reducible refine (num_same _ _).mono ?_); rintro e w1 ⟨rfl, rfl⟩)
  go_ret
  exact ⟨rfl, rfl⟩

theorem mul64_any (x y : Int) (hx : 0 ≤ x ∧ x ≤ 18446744073709551615) (hy : 0 ≤ y ∧ y ≤ 18446744073709551615) (w : World) :
    Calls Try.prog 45 #[.int .u64 x, .int .u64 y] w fun e w' => e = .returned (.tuple #[.int .u64 (x * y / 18446744073709551616), .int .u64 (x * y % 18446744073709551616)]) ∧ w = w' := by
  obtain ⟨x, rfl⟩ := Int.eq_ofNat_of_zero_le hx.1
  obtain ⟨y, rfl⟩ := Int.eq_ofNat_of_zero_le hy.1
  refine (Try.bits_Mul64 x y (by omega) (by omega) w).mono ?_
  rintro e w1 ⟨rfl, rfl⟩
  exact ⟨ri2 (by rw [Int.natCast_ediv, Int.natCast_mul]; rfl) (by rw [Int.natCast_emod, Int.natCast_mul]; rfl), rfl⟩

set_option maxRecDepth 100000 in
theorem parts_not (a b c hi lo : Int) (e1 : Sat.num a * Sat.num b / 18446744073709551616 = hi) (e2 : Sat.num a * Sat.num b % 18446744073709551616 = lo) (h : Sat.num c ≤ hi) (w : World) :
    Calls Try.prog 38 #[.int .i64 a, .int .i64 b, .int .i64 c] w fun e w' => e = .returned (.tuple #[.int .u64 0, .int .u64 0, .bool false]) ∧ Below w.heap.size w w' := by
  have HM := Lib.hid (mul64_any _ _ (num_u64 a) (num_u64 b))
  rw [e1, e2] at HM
  clear e1 e2
  go_enter Try.func38, Try.ntmps38
  go_wp2_with fail
  refine (nums_any a b c _ _ (by go_simp) (by go_simp) (by go_simp)).mono ?_
  rintro e w1 ⟨rfl, rfl⟩
  go_wp2_with fail
  go_quiet ((go_at_call 45; exact quiet_left (HM.out _)))
  go_wp2_with fail
  refine bodyPost_ret (v := .tuple #[.int .u64 0, .int .u64 0, .bool false]) (by simp [results, Try.results38, go_sem]) rfl ⟨rfl, (by repeat (first | with_reducible assumption | with_reducible exact Below.refl _ _ | with_reducible exact later ‹_› ‹_› | refine later ?_ (by with_reducible assumption) | refine laterA ?_ _ | refine laterDN ?_ _ | refine laterD ?_ | refine laterR ?_ _ _))⟩

/-- Div64 at whatever numbers: the quotient and the remainder of the whole product. -/
theorem div64_all (p y hi lo : Int) (e1 : p / 18446744073709551616 = hi) (e2 : p % 18446744073709551616 = lo) (h0 : 0 ≤ p) (hh : hi < y) (hy : y ≤ 9007199254740991) (w : World) :
    Calls Try.prog 46 #[.int .u64 hi, .int .u64 lo, .int .u64 y] w fun e w' => e = .returned (.tuple #[.int .u64 (p / y), .int .u64 (p % y)]) ∧ ∃ m, w' = w.drewN m := by
  subst e1 e2
  have hh0 : 0 ≤ p / 18446744073709551616 := by omega
  have hl0 : 0 ≤ p % 18446744073709551616 := by omega
  rcases Int.eq_ofNat_of_zero_le (show 0 ≤ y by omega) with ⟨y', rfl⟩
  rcases Int.eq_ofNat_of_zero_le h0 with ⟨p', rfl⟩
  have hp : p' / 18446744073709551616 * 18446744073709551616 + p' % 18446744073709551616 = p' := by rw [Nat.mul_comm]; exact Nat.div_add_mod _ _
  have eh : (p' : Int) / 18446744073709551616 = ((p' / 18446744073709551616 : Nat) : Int) := rfl
  have el : (p' : Int) % 18446744073709551616 = ((p' % 18446744073709551616 : Nat) : Int) := rfl
  rw [eh] at hh ⊢
  rw [el]
  have hlt : p' % 18446744073709551616 < 18446744073709551616 := Nat.mod_lt _ (by omega)
  have hlt' : p' / 18446744073709551616 < y' := by omega
  by_cases hz : p' / 18446744073709551616 = 0
  · have e : p' % 18446744073709551616 = p' := by rw [hz] at hp; omega
    rw [hz, e]
    rw [e] at hlt
    refine div64_zero (p' : Int) (y' : Int) (by omega) (by omega) ?_ w
    have e3 : ((p' : Int).tdiv (y' : Int)) = ((p' / y' : Nat) : Int) := (Int.ofNat_tdiv _ _).symm
    rw [e3, wr, Nat.mod_eq_of_lt (Nat.lt_of_le_of_lt (Nat.div_le_self _ _) hlt)]
    rfl
  · have := div64_any (p' / 18446744073709551616) (p' % 18446744073709551616) y' hlt (by omega) (by omega) hlt' w
    rw [hp] at this
    exact this

set_option maxRecDepth 100000 in
theorem parts_fits (a b c hi lo q r : Int) (e1 : Sat.num a * Sat.num b / 18446744073709551616 = hi) (e2 : Sat.num a * Sat.num b % 18446744073709551616 = lo) (h : hi < Sat.num c)
    (eq : Sat.num a * Sat.num b / Sat.num c = q) (er : Sat.num a * Sat.num b % Sat.num c = r) (w : World) :
    Calls Try.prog 38 #[.int .i64 a, .int .i64 b, .int .i64 c] w fun e w' => e = .returned (.tuple #[.int .u64 q, .int .u64 r, .bool true]) ∧ Below w.heap.size w w' := by
  have HD := Lib.hid (div64_all _ (Sat.num c) hi lo e1 e2 (Int.mul_nonneg (Sat.num_lo a) (Sat.num_lo b)) h (Sat.num_hi c))
  rw [eq, er] at HD
  have HM := Lib.hid (mul64_any _ _ (num_u64 a) (num_u64 b))
  rw [e1, e2] at HM
  clear e1 e2 eq er
  go_enter Try.func38, Try.ntmps38
  go_wp2_with fail
  refine (nums_any a b c _ _ (by go_simp) (by go_simp) (by go_simp)).mono ?_
  rintro e w1 ⟨rfl, rfl⟩
  go_wp2_with fail
  go_quiet ((go_at_call 45; exact quiet_left (HM.out _)))
  go_wp2_with fail
  refine (HD.out _).mono ?_
  rintro e w1 ⟨rfl, m, rfl⟩
  go_wp2_with fail
  refine bodyPost_ret (v := .tuple #[.int .u64 q, .int .u64 r, .bool true]) (by simp [results, Try.results38, go_sem]) rfl ⟨rfl, (by repeat (first | with_reducible assumption | with_reducible exact Below.refl _ _ | with_reducible exact later ‹_› ‹_› | refine later ?_ (by with_reducible assumption) | refine laterA ?_ _ | refine laterDN ?_ _ | refine laterD ?_ | refine laterR ?_ _ _))⟩

/-! ### What is asked of the parts, in the spec's words -/
theorem not_quo {a b c : Int} (h : Sat.num c ≤ Sat.num a * Sat.num b / 18446744073709551616) : Sat.quo a b c = 9007199254740991 ∧ Sat.rest a b c = 0 := by
  unfold Sat.quo Sat.rest
  by_cases hc : Sat.num c = 0
  · simp [hc]
  · rw [if_neg hc, if_neg hc]
    have c0 := Sat.num_lo c
    have hb : 18446744073709551616 ≤ Sat.num a * Sat.num b / Sat.num c := by
      rw [Int.le_ediv_iff_mul_le (by omega)]
      rw [Int.le_ediv_iff_mul_le (by omega)] at h
      rw [Int.mul_comm]; exact h
    generalize Sat.num a * Sat.num b / Sat.num c = q at *
    exact ⟨by omega, by rw [if_pos (by omega)]⟩

theorem fits_quo {a b c : Int} (h : Sat.num a * Sat.num b / 18446744073709551616 < Sat.num c) :
    Sat.quo a b c = min (Sat.num a * Sat.num b / Sat.num c) 9007199254740991 ∧ Sat.rest a b c = (if 9007199254740991 < Sat.num a * Sat.num b / Sat.num c then 0 else Sat.num a * Sat.num b % Sat.num c) ∧
    0 ≤ Sat.num a * Sat.num b / Sat.num c ∧ 0 ≤ Sat.num a * Sat.num b % Sat.num c ∧ Sat.num a * Sat.num b % Sat.num c ≤ 9007199254740991 := by
  have h0 := Int.mul_nonneg (Sat.num_lo a) (Sat.num_lo b)
  have hc : 0 < Sat.num c := by
    have : 0 ≤ Sat.num a * Sat.num b / 18446744073709551616 := Int.ediv_nonneg h0 (by omega)
    omega
  have hne : Sat.num c ≠ 0 := by omega
  have c1 := Sat.num_hi c
  have r1 := Int.emod_lt_of_pos (Sat.num a * Sat.num b) hc
  refine ⟨by unfold Sat.quo; rw [if_neg hne], by unfold Sat.rest; rw [if_neg hne], Int.ediv_nonneg h0 (by omega), Int.emod_nonneg _ hne, by omega⟩

theorem muldiv_any (a b c : Int) (w : World) :
    Calls Try.prog 22 #[.int .i64 a, .int .i64 b, .int .i64 c] w fun e w' => e = .returned (.int .i64 (Sat.quo a b c)) ∧ Below w.heap.size w w' := by
  by_cases h : Sat.num c ≤ Sat.num a * Sat.num b / 18446744073709551616
  · rw [(not_quo h).1]
    have HP := Lib.hid (parts_not a b c _ _ rfl rfl h)
    clear h
    go_enter Try.func22, Try.ntmps22
    go_wp2_with (go_at_call 38; (with_reducible refine (HP.out _).mono ?_); rintro e w1 ⟨rfl, hb⟩)
    go_ret
    exact ⟨rfl, by assumption⟩
  · obtain ⟨e1, _, q0, _, _⟩ := fits_quo (Int.not_le.1 h)
    rw [e1]
    clear e1
    have HP := Lib.hid (parts_fits a b c _ _ _ _ rfl rfl (Int.not_le.1 h) rfl rfl)
    clear h
    generalize Sat.num a * Sat.num b / Sat.num c = q at *
    generalize Sat.num a * Sat.num b % Sat.num c = r at *
    go_enter Try.func22, Try.ntmps22
    go_wp2_with (first | (go_at_call 38; (with_reducible refine (HP.out _).mono ?_); rintro e w1 ⟨rfl, hb⟩) | (go_at_call 40; (with_reducible refine (back_any _ q0 _).mono ?_); rintro e w1 ⟨rfl, hb⟩))
    go_ret
    exact ⟨rfl, (by repeat (first | with_reducible assumption | with_reducible exact Below.refl _ _ | with_reducible exact later ‹_› ‹_› | refine later ?_ (by with_reducible assumption) | refine laterA ?_ _ | refine laterDN ?_ _ | refine laterD ?_ | refine laterR ?_ _ _))⟩

theorem mulrest_any (a b c : Int) (w : World) :
    Calls Try.prog 20 #[.int .i64 a, .int .i64 b, .int .i64 c] w fun e w' => e = .returned (.tuple #[.int .i64 (Sat.quo a b c), .int .i64 (Sat.rest a b c)]) ∧ Below w.heap.size w w' := by
  by_cases h : Sat.num c ≤ Sat.num a * Sat.num b / 18446744073709551616
  · rw [(not_quo h).1, (not_quo h).2]
    have HP := Lib.hid (parts_not a b c _ _ rfl rfl h)
    clear h
    go_enter Try.func20, Try.ntmps20
    go_wp2_with (go_at_call 38; (with_reducible refine (HP.out _).mono ?_); rintro e w1 ⟨rfl, hb⟩)
    go_ret2
    exact ⟨rfl, by assumption⟩
  · obtain ⟨e1, e2, q0, r0, r1⟩ := fits_quo (Int.not_le.1 h)
    rw [e1, e2]
    clear e1 e2
    have HP := Lib.hid (parts_fits a b c _ _ _ _ rfl rfl (Int.not_le.1 h) rfl rfl)
    clear h
    generalize Sat.num a * Sat.num b / Sat.num c = q at *
    generalize Sat.num a * Sat.num b % Sat.num c = r at *
    by_cases hq : 9007199254740991 < q
    · go_enter Try.func20, Try.ntmps20
      go_wp2_with (go_at_call 38; (with_reducible refine (HP.out _).mono ?_); rintro e w1 ⟨rfl, hb⟩)
      go_ret2
      exact ⟨ri2 (by omega) (by first | rfl | omega), by assumption⟩
    · have eq : IntKind.i64.wrap q = q := IntWalk.i64_in _ (by omega)
      have er : IntKind.i64.wrap r = r := IntWalk.i64_in _ (by omega)
      go_enter Try.func20, Try.ntmps20
      go_wp2_with (go_at_call 38; (with_reducible refine (HP.out _).mono ?_); rintro e w1 ⟨rfl, hb⟩)
      go_ret2
      exact ⟨ri2 (by omega) (by first | rfl | omega), by assumption⟩

theorem mulup_any (a b c : Int) (w : World) :
    Calls Try.prog 24 #[.int .i64 a, .int .i64 b, .int .i64 c] w fun e w' => e = .returned (.int .i64 (Sat.up a b c)) ∧ Below w.heap.size w w' := by
  by_cases h : Sat.num c ≤ Sat.num a * Sat.num b / 18446744073709551616
  · have e : Sat.up a b c = 9007199254740991 := by unfold Sat.up; rw [(not_quo h).1, (not_quo h).2]; rfl
    rw [e]
    clear e
    have HP := Lib.hid (parts_not a b c _ _ rfl rfl h)
    clear h
    go_enter Try.func24, Try.ntmps24
    go_wp2_with (go_at_call 38; (with_reducible refine (HP.out _).mono ?_); rintro e w1 ⟨rfl, hb⟩)
    go_ret
    exact ⟨rfl, by assumption⟩
  · obtain ⟨e1, e2, q0, r0, r1⟩ := fits_quo (Int.not_le.1 h)
    have e : Sat.up a b c = if 0 < Sat.num a * Sat.num b % Sat.num c then Sat.num (min (Sat.num a * Sat.num b / Sat.num c) 9007199254740991 + 1) else min (Sat.num a * Sat.num b / Sat.num c) 9007199254740991 := by
      unfold Sat.up
      rw [e1, e2]
      unfold Sat.num
      generalize max 0 (min a 9007199254740991) * max 0 (min b 9007199254740991) / max 0 (min c 9007199254740991) = q at *
      generalize max 0 (min a 9007199254740991) * max 0 (min b 9007199254740991) % max 0 (min c 9007199254740991) = r at *
      split <;> split <;> split at * <;> omega
    rw [e]
    clear e e1 e2
    have HP := Lib.hid (parts_fits a b c _ _ _ _ rfl rfl (Int.not_le.1 h) rfl rfl)
    clear h
    generalize Sat.num a * Sat.num b / Sat.num c = q at *
    generalize Sat.num a * Sat.num b % Sat.num c = r at *
    have m0 : 0 ≤ min q 9007199254740991 := by omega
    have m1 : min q 9007199254740991 ≤ 9007199254740991 := by omega
    by_cases hr : 0 < r
    · go_enter Try.func24, Try.ntmps24
      go_wp2_with (first | (go_at_call 38; (with_reducible refine (HP.out _).mono ?_); rintro e w1 ⟨rfl, hb⟩) | (go_at_call 40; (with_reducible refine (back_any _ q0 _).mono ?_); rintro e w1 ⟨rfl, hb⟩) | (go_at_call 12; (with_reducible refine (num_any _ _).mono ?_); rintro e w1 ⟨rfl, hb⟩))
      go_ret
      exact ⟨ri (by first | rfl | omega), (by repeat (first | with_reducible assumption | with_reducible exact Below.refl _ _ | with_reducible exact later ‹_› ‹_› | refine later ?_ (by with_reducible assumption) | refine laterA ?_ _ | refine laterDN ?_ _ | refine laterD ?_ | refine laterR ?_ _ _))⟩
    · go_enter Try.func24, Try.ntmps24
      go_wp2_with (first | (go_at_call 38; (with_reducible refine (HP.out _).mono ?_); rintro e w1 ⟨rfl, hb⟩) | (go_at_call 40; (with_reducible refine (back_any _ q0 _).mono ?_); rintro e w1 ⟨rfl, hb⟩) | (go_at_call 12; (with_reducible refine (num_any _ _).mono ?_); rintro e w1 ⟨rfl, hb⟩))
      go_ret
      exact ⟨ri (by first | rfl | omega), (by repeat (first | with_reducible assumption | with_reducible exact Below.refl _ _ | with_reducible exact later ‹_› ‹_› | refine later ?_ (by with_reducible assumption) | refine laterA ?_ _ | refine laterDN ?_ _ | refine laterD ?_ | refine laterR ?_ _ _))⟩

theorem mul_any (a b : Int) (w : World) :
    Calls Try.prog 18 #[.int .i64 a, .int .i64 b] w fun e w' => e = .returned (.int .i64 (Sat.mul a b)) ∧ Below w.heap.size w w' := by
  go_enter Try.func18, Try.ntmps18
  go_wp2_with (go_at_call 22; (with_reducible refine (muldiv_any _ _ _ _).mono ?_); rintro e w1 ⟨rfl, hb⟩)
  go_ret
  exact ⟨rfl, by assumption⟩

/-! ### Times -/
theorem rank_same (t : Int) (w : World) :
    Calls Try.prog 42 #[.int .i64 t] w fun e w' => e = .returned (.int .u64 (Sat.rank t)) ∧ w = w' := by
  cases h : Sat.isN t
  · have e : Sat.rank t = 18446744073709551615 := by unfold Sat.rank; rw [h]; rfl
    rw [e]
    clear e
    go_enter Try.func42, Try.ntmps42
    go_wp2_with (go_at_call 10; (with_reducible refine (is_same _ _).mono ?_); rintro e w1 ⟨rfl, rfl⟩)
    go_ret
    exact ⟨rfl, rfl⟩
  · have e : Sat.rank t = t := by unfold Sat.rank; rw [h]; rfl
    have hb := (Sat.isN_iff t).1 h
    have e2 : IntKind.u64.wrap t = t := by rw [IntKind.wrap_u64]; omega
    rw [e]
    clear e
    go_enter Try.func42, Try.ntmps42
    go_wp2_with (go_at_call 10; (with_reducible refine (is_same _ _).mono ?_); rintro e w1 ⟨rfl, rfl⟩)
    go_ret
    exact ⟨rfl, rfl⟩

theorem rank_any (t : Int) (w : World) :
    Calls Try.prog 42 #[.int .i64 t] w fun e w' => e = .returned (.int .u64 (Sat.rank t)) ∧ Below w.heap.size w w' := same_below (rank_same t w)

theorem time_same (n : Int) (h0 : 0 ≤ n) (h1 : n ≤ 9007199254740991) (w : World) :
    Calls Try.prog 41 #[.int .u64 n] w fun e w' => e = .returned (.int .i64 n) ∧ w = w' := by
  have e : (n == 18446744073709551615) = false := by simp; omega
  have e2 : IntKind.i64.wrap n = n := IntWalk.i64_in _ (by omega)
  go_enter Try.func41, Try.ntmps41
  go_wp2
  go_ret
  exact ⟨rfl, rfl⟩

theorem time_any (n : Int) (h0 : 0 ≤ n) (h1 : n ≤ 9007199254740991) (w : World) :
    Calls Try.prog 41 #[.int .u64 n] w fun e w' => e = .returned (.int .i64 n) ∧ Below w.heap.size w w' := same_below (time_same n h0 h1 w)

theorem time_never (w : World) :
    Calls Try.prog 41 #[.int .u64 18446744073709551615] w fun e w' => e = .returned (.int .i64 (-1)) ∧ w = w' := by
  go_enter Try.func41, Try.ntmps41
  go_wp2
  go_ret
  exact ⟨rfl, rfl⟩

theorem time_rank (n : Int) (m : Int) (h : n = 18446744073709551615 ∧ m = -1 ∨ 0 ≤ n ∧ n ≤ 9007199254740991 ∧ m = n) (w : World) :
    Calls Try.prog 41 #[.int .u64 n] w fun e w' => e = .returned (.int .i64 m) ∧ w = w' := by
  obtain ⟨rfl, rfl⟩ | ⟨h0, h1, rfl⟩ := h
  · exact time_never w
  · exact time_same _ h0 h1 w

theorem earlier_same (a b : Int) (w : World) :
    Calls Try.prog 31 #[.int .i64 a, .int .i64 b] w fun e w' => e = .returned (.int .i64 (Sat.earlier a b)) ∧ w = w' := by
  have HT := Lib.hid (time_rank (min (Sat.rank a) (Sat.rank b)) (Sat.earlier a b) (by
    unfold Sat.rank Sat.earlier Sat.tm
    cases ha : Sat.isN a <;> cases hb : Sat.isN b <;> simp only [if_true, if_false, Bool.false_eq_true] <;> (try rw [Sat.isN_iff] at *) <;> (try simp) <;> omega))
  go_enter Try.func31, Try.ntmps31
  go_wp2_with (first | (go_at_call 42; (with_reducible refine (rank_same _ _).mono ?_); rintro e w1 ⟨rfl, rfl⟩) | (go_at_call 41; (with_reducible refine (HT.out _).mono ?_); rintro e w1 ⟨rfl, rfl⟩))
  go_ret
  exact ⟨rfl, rfl⟩

theorem earlier_any (a b : Int) (w : World) :
    Calls Try.prog 31 #[.int .i64 a, .int .i64 b] w fun e w' => e = .returned (.int .i64 (Sat.earlier a b)) ∧ Below w.heap.size w w' := same_below (earlier_same a b w)

theorem later_same (a b : Int) (w : World) :
    Calls Try.prog 33 #[.int .i64 a, .int .i64 b] w fun e w' => e = .returned (.int .i64 (Sat.later a b)) ∧ w = w' := by
  have HT := Lib.hid (time_rank (max (Sat.rank a) (Sat.rank b)) (Sat.later a b) (by
    unfold Sat.rank Sat.later Sat.tm
    cases ha : Sat.isN a <;> cases hb : Sat.isN b <;> simp only [if_true, if_false, Bool.false_eq_true] <;> (try rw [Sat.isN_iff] at *) <;> (try simp) <;> omega))
  go_enter Try.func33, Try.ntmps33
  go_wp2_with (first | (go_at_call 42; (with_reducible refine (rank_same _ _).mono ?_); rintro e w1 ⟨rfl, rfl⟩) | (go_at_call 41; (with_reducible refine (HT.out _).mono ?_); rintro e w1 ⟨rfl, rfl⟩))
  go_ret
  exact ⟨rfl, rfl⟩

theorem later_any (a b : Int) (w : World) :
    Calls Try.prog 33 #[.int .i64 a, .int .i64 b] w fun e w' => e = .returned (.int .i64 (Sat.later a b)) ∧ Below w.heap.size w w' := same_below (later_same a b w)

theorem ends_same (t d : Int) (w : World) :
    Calls Try.prog 35 #[.int .i64 t, .int .i64 d] w fun e w' => e = .returned (.int .i64 (Sat.ends t d)) ∧ w = w' := by
  cases h : Sat.isN t
  · have e : Sat.ends t d = -1 := by unfold Sat.ends; rw [h]; rfl
    rw [e]
    clear e
    go_enter Try.func35, Try.ntmps35
    go_wp2_with (first | (go_at_call 10; (with_reducible refine (is_same _ _).mono ?_); rintro e w1 ⟨rfl, rfl⟩) | (go_at_call 14; (with_reducible refine (add_same _ _ _).mono ?_); rintro e w1 ⟨rfl, rfl⟩))
    go_ret
    exact ⟨rfl, rfl⟩
  · have e : Sat.ends t d = Sat.add t d := by unfold Sat.ends; rw [h]; rfl
    rw [e]
    clear e
    go_enter Try.func35, Try.ntmps35
    go_wp2_with (first | (go_at_call 10; (with_reducible refine (is_same _ _).mono ?_); rintro e w1 ⟨rfl, rfl⟩) | (go_at_call 14; (with_reducible refine (add_same _ _ _).mono ?_); rintro e w1 ⟨rfl, rfl⟩))
    go_ret
    exact ⟨rfl, rfl⟩

theorem ends_any (t d : Int) (w : World) :
    Calls Try.prog 35 #[.int .i64 t, .int .i64 d] w fun e w' => e = .returned (.int .i64 (Sat.ends t d)) ∧ Below w.heap.size w w' := same_below (ends_same t d w)

theorem rtime_same (t : Int) (w : World) :
    Calls Try.prog 43 #[.int .i64 t] w fun e w' => e = .returned (.int .i64 (Sat.tm t)) ∧ w = w' := by
  cases h : Sat.isT t
  · have e : Sat.tm t = -1 := by
      unfold Sat.isT at h
      unfold Sat.tm
      simp at h
      rw [h.2]; rfl
    rw [e]
    clear e
    go_enter Try.func43, Try.ntmps43
    go_wp2_with (go_at_call 30; (with_reducible refine (ristime_same _ _).mono ?_); rintro e w1 ⟨rfl, rfl⟩)
    go_ret
    exact ⟨rfl, rfl⟩
  · have e : Sat.tm t = t := by
      unfold Sat.isT at h
      unfold Sat.tm
      simp at h
      rcases h with rfl | h
      · rfl
      · rw [h]; rfl
    rw [e]
    clear e
    go_enter Try.func43, Try.ntmps43
    go_wp2_with (go_at_call 30; (with_reducible refine (ristime_same _ _).mono ?_); rintro e w1 ⟨rfl, rfl⟩)
    go_ret
    exact ⟨rfl, rfl⟩

theorem rtime_any (t : Int) (w : World) :
    Calls Try.prog 43 #[.int .i64 t] w fun e w' => e = .returned (.int .i64 (Sat.tm t)) ∧ Below w.heap.size w w' := same_below (rtime_same t w)

theorem rearlier_same (a b : Int) (w : World) :
    Calls Try.prog 32 #[.int .i64 a, .int .i64 b] w fun e w' => e = .returned (.int .i64 (Sat.earlier a b)) ∧ w = w' := by
  have e : Sat.earlier a b = if Sat.tm a = -1 ∨ Sat.tm b ≠ -1 ∧ Sat.tm b < Sat.tm a then Sat.tm b else Sat.tm a := rfl
  rw [e]
  clear e
  have HA := Lib.hid (rtime_same a)
  have HB := Lib.hid (rtime_same b)
  generalize Sat.tm a = x at *
  generalize Sat.tm b = y at *
  by_cases h1 : x = -1
  · have k1 : (x == -1) = true := by simp [h1]
    rw [if_pos (.inl h1)]
    clear h1
    go_enter Try.func32, Try.ntmps32
    go_wp2_with (first | (go_at_call 43; (with_reducible refine (HA.out _).mono ?_); rintro e w1 ⟨rfl, rfl⟩) | (go_at_call 43; (with_reducible refine (HB.out _).mono ?_); rintro e w1 ⟨rfl, rfl⟩))
    go_ret
    exact ⟨rfl, rfl⟩
  · have k1 : (x == -1) = false := by simp [h1]
    by_cases h2 : y = -1
    · have k2 : (y != -1) = false := by simp [h2]
      have k3 : (y == -1) = true := by simp [h2]
      rw [if_neg (by omega)]
      clear h1 h2
      go_enter Try.func32, Try.ntmps32
      go_wp2_with (first | (go_at_call 43; (with_reducible refine (HA.out _).mono ?_); rintro e w1 ⟨rfl, rfl⟩) | (go_at_call 43; (with_reducible refine (HB.out _).mono ?_); rintro e w1 ⟨rfl, rfl⟩))
      go_ret
      exact ⟨rfl, rfl⟩
    · have k2 : (y != -1) = true := by simp [h2]
      have k3 : (y == -1) = false := by simp [h2]
      by_cases h3 : y < x
      · rw [if_pos (.inr ⟨h2, h3⟩)]
        clear h1 h2
        go_enter Try.func32, Try.ntmps32
        go_wp2_with (first | (go_at_call 43; (with_reducible refine (HA.out _).mono ?_); rintro e w1 ⟨rfl, rfl⟩) | (go_at_call 43; (with_reducible refine (HB.out _).mono ?_); rintro e w1 ⟨rfl, rfl⟩))
        go_ret
        exact ⟨rfl, rfl⟩
      · rw [if_neg (by omega)]
        clear h1 h2
        go_enter Try.func32, Try.ntmps32
        go_wp2_with (first | (go_at_call 43; (with_reducible refine (HA.out _).mono ?_); rintro e w1 ⟨rfl, rfl⟩) | (go_at_call 43; (with_reducible refine (HB.out _).mono ?_); rintro e w1 ⟨rfl, rfl⟩))
        go_ret
        exact ⟨rfl, rfl⟩

theorem rearlier_any (a b : Int) (w : World) :
    Calls Try.prog 32 #[.int .i64 a, .int .i64 b] w fun e w' => e = .returned (.int .i64 (Sat.earlier a b)) ∧ Below w.heap.size w w' := same_below (rearlier_same a b w)

theorem rlater_same (a b : Int) (w : World) :
    Calls Try.prog 34 #[.int .i64 a, .int .i64 b] w fun e w' => e = .returned (.int .i64 (Sat.later a b)) ∧ w = w' := by
  have e : Sat.later a b = if Sat.tm a = -1 ∨ Sat.tm b = -1 then -1 else max (Sat.tm a) (Sat.tm b) := rfl
  rw [e]
  clear e
  have HA := Lib.hid (rtime_same a)
  have HB := Lib.hid (rtime_same b)
  generalize Sat.tm a = x at *
  generalize Sat.tm b = y at *
  by_cases h1 : x = -1
  · have k1 : (x == -1) = true := by simp [h1]
    rw [if_pos (.inl h1)]
    clear h1
    go_enter Try.func34, Try.ntmps34
    go_wp2_with (first | (go_at_call 43; (with_reducible refine (HA.out _).mono ?_); rintro e w1 ⟨rfl, rfl⟩) | (go_at_call 43; (with_reducible refine (HB.out _).mono ?_); rintro e w1 ⟨rfl, rfl⟩))
    go_ret
    exact ⟨rfl, rfl⟩
  · have k1 : (x == -1) = false := by simp [h1]
    by_cases h2 : y = -1
    · have k3 : (y == -1) = true := by simp [h2]
      rw [if_pos (.inr h2)]
      clear h1 h2
      go_enter Try.func34, Try.ntmps34
      go_wp2_with (first | (go_at_call 43; (with_reducible refine (HA.out _).mono ?_); rintro e w1 ⟨rfl, rfl⟩) | (go_at_call 43; (with_reducible refine (HB.out _).mono ?_); rintro e w1 ⟨rfl, rfl⟩))
      go_ret
      exact ⟨rfl, rfl⟩
    · have k3 : (y == -1) = false := by simp [h2]
      rw [if_neg (by omega)]
      clear h1 h2
      go_enter Try.func34, Try.ntmps34
      go_wp2_with (first | (go_at_call 43; (with_reducible refine (HA.out _).mono ?_); rintro e w1 ⟨rfl, rfl⟩) | (go_at_call 43; (with_reducible refine (HB.out _).mono ?_); rintro e w1 ⟨rfl, rfl⟩))
      go_ret
      exact ⟨rfl, rfl⟩

theorem rlater_any (a b : Int) (w : World) :
    Calls Try.prog 34 #[.int .i64 a, .int .i64 b] w fun e w' => e = .returned (.int .i64 (Sat.later a b)) ∧ Below w.heap.size w w' := same_below (rlater_same a b w)

theorem rends_same (t d : Int) (w : World) :
    Calls Try.prog 36 #[.int .i64 t, .int .i64 d] w fun e w' => e = .returned (.int .i64 (Sat.ends t d)) ∧ w = w' := by
  have HT := Lib.hid (rtime_same t)
  cases h : Sat.isN t
  · have e : Sat.ends t d = -1 := by unfold Sat.ends; rw [h]; rfl
    have e2 : Sat.tm t = -1 := by unfold Sat.tm; rw [h]; rfl
    rw [e]
    rw [e2] at HT
    clear e e2 h
    go_enter Try.func36, Try.ntmps36
    go_wp2_with (first | (go_at_call 43; (with_reducible refine (HT.out _).mono ?_); rintro e w1 ⟨rfl, rfl⟩) | (go_at_call 15; (with_reducible refine (radd_same _ _ _).mono ?_); rintro e w1 ⟨rfl, rfl⟩))
    go_ret
    exact ⟨rfl, rfl⟩
  · have e : Sat.ends t d = Sat.add t d := by unfold Sat.ends; rw [h]; rfl
    have e2 : Sat.tm t = t := by unfold Sat.tm; rw [h]; rfl
    have k : (t == -1) = false := by rw [Sat.isN_iff] at h; simp; omega
    rw [e]
    rw [e2] at HT
    clear e e2 h
    go_enter Try.func36, Try.ntmps36
    go_wp2_with (first | (go_at_call 43; (with_reducible refine (HT.out _).mono ?_); rintro e w1 ⟨rfl, rfl⟩) | (go_at_call 15; (with_reducible refine (radd_same _ _ _).mono ?_); rintro e w1 ⟨rfl, rfl⟩))
    go_ret
    exact ⟨rfl, rfl⟩

theorem rends_any (t d : Int) (w : World) :
    Calls Try.prog 36 #[.int .i64 t, .int .i64 d] w fun e w' => e = .returned (.int .i64 (Sat.ends t d)) ∧ Below w.heap.size w w' := same_below (rends_same t d w)

end Go.Proofs.Ythaagkhmmoebaaa
