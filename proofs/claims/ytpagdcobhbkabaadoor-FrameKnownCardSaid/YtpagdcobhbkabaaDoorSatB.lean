/-
  Package sat: products, quotients, rests; times.
-/
import Derived.Test.YtpagdcobhbkabaaDoorSat
namespace Go.Proofs.YtpagdcobhbkabaaDoor
open Go.RowKit Go.Sort

theorem wrap_num (n : Int) : IntKind.u64.wrap (Sat.num n) = Sat.num n := by
  have h0 := Sat.num_lo n
  have h1 := Sat.num_hi n
  rw [IntKind.wrap_u64]; omega
theorem num_u64 (n : Int) : 0 ≤ Sat.num n ∧ Sat.num n ≤ 18446744073709551615 := by
  have h0 := Sat.num_lo n
  have h1 := Sat.num_hi n
  omega

theorem make3 (w : World) : (Instr.makeSlice 97 (.int .i64 3) (.int .i64 3)).run Tryd.prog w = .ok (.slice (some ⟨w.heap.size, 0, none⟩) 3 3) (w.alloc (.cells #[.int .u64 0, .int .u64 0, .int .u64 0] 91)) := by kernel_rfl

theorem nums_any (a0 a1 a2 : Int) (b : Nat) (w : World) (c0 : w.cell? ⟨b, 0, none⟩ = some (.int .i64 a0)) (c1 : w.cell? ⟨b, 1, none⟩ = some (.int .i64 a1)) (c2 : w.cell? ⟨b, 2, none⟩ = some (.int .i64 a2)) :
    Calls Tryd.prog 74 #[.slice (some ⟨b, 0, none⟩) 3 3] w fun e w' => e = .returned (.slice (some ⟨w.heap.size, 0, none⟩) 3 3) ∧ w' = w.alloc (.cells #[.int .u64 (Sat.num a0), .int .u64 (Sat.num a1), .int .u64 (Sat.num a2)] 91) := by
  have hmk := make3
  have z0 := wrap_num a0
  have z1 := wrap_num a1
  have z2 := wrap_num a2
  have hb : b < w.heap.size := block_lt_of_cell c0
  have hne : ¬ b = w.heap.size := by omega
  go_enter Tryd.func74, Tryd.ntmps74
  go_wp2_with fail
  refine wp_loop_rounds 4 ?_
  rw [rounds_succ]
  go_wp2_with (go_at_call 78; (with_reducible refine (num_same _ _).mono ?_); rintro e w1 ⟨rfl, rfl⟩)
  rw [rounds_succ]
  go_wp2_with (go_at_call 78; (with_reducible refine (num_same _ _).mono ?_); rintro e w1 ⟨rfl, rfl⟩)
  rw [rounds_succ]
  go_wp2_with (go_at_call 78; (with_reducible refine (num_same _ _).mono ?_); rintro e w1 ⟨rfl, rfl⟩)
  rw [rounds_succ]
  go_wp2_with (go_at_call 78; (with_reducible refine (num_same _ _).mono ?_); rintro e w1 ⟨rfl, rfl⟩)
  go_ret
  exact ⟨rfl, rfl⟩

theorem mul64_any (x y : Int) (hx : 0 ≤ x ∧ x ≤ 18446744073709551615) (hy : 0 ≤ y ∧ y ≤ 18446744073709551615) (w : World) :
    Calls Tryd.prog 75 #[.int .u64 x, .int .u64 y] w fun e w' => e = .returned (.tuple #[.int .u64 (x * y / 18446744073709551616), .int .u64 (x * y % 18446744073709551616)]) ∧ w = w' := by
  obtain ⟨x, rfl⟩ := Int.eq_ofNat_of_zero_le hx.1
  obtain ⟨y, rfl⟩ := Int.eq_ofNat_of_zero_le hy.1
  refine (Tryd.bits_Mul64 x y (by omega) (by omega) w).mono ?_
  rintro e w1 ⟨rfl, rfl⟩
  exact ⟨ri2 (by rw [Int.natCast_ediv, Int.natCast_mul]; rfl) (by rw [Int.natCast_emod, Int.natCast_mul]; rfl), rfl⟩

set_option maxRecDepth 100000 in
theorem parts_not (a b c hi lo : Int) (e1 : Sat.num a * Sat.num b / 18446744073709551616 = hi) (e2 : Sat.num a * Sat.num b % 18446744073709551616 = lo) (h : Sat.num c ≤ hi) (w : World) :
    Calls Tryd.prog 70 #[.int .i64 a, .int .i64 b, .int .i64 c] w fun e w' => e = .returned (.tuple #[.int .u64 0, .int .u64 0, .bool false]) ∧ Below w.heap.size w w' := by
  have HM := Lib.hid (mul64_any _ _ (num_u64 a) (num_u64 b))
  rw [e1, e2] at HM
  clear e1 e2
  go_enter Tryd.func70, Tryd.ntmps70
  go_wp2_with fail
  refine (nums_any a b c _ _ (by go_simp) (by go_simp) (by go_simp)).mono ?_
  rintro e w1 ⟨rfl, rfl⟩
  go_wp2_with fail
  go_quiet ((go_at_call 75; exact quiet_left (HM.out _)))
  go_wp2_with fail
  refine bodyPost_ret (v := .tuple #[.int .u64 0, .int .u64 0, .bool false]) (by simp [results, Tryd.results70, go_sem]) rfl ⟨rfl, (by repeat (first | with_reducible assumption | with_reducible exact Below.refl _ _ | with_reducible exact later ‹_› ‹_› | refine later ?_ (by with_reducible assumption) | refine laterA ?_ _ | refine laterDN ?_ _ | refine laterD ?_ | refine laterR ?_ _ _))⟩

/-- Div64 at whatever numbers: the quotient and the remainder of the whole product. -/
theorem div64_all (p y hi lo : Int) (e1 : p / 18446744073709551616 = hi) (e2 : p % 18446744073709551616 = lo) (h0 : 0 ≤ p) (hh : hi < y) (hy : y ≤ 9007199254740991) (w : World) :
    Calls Tryd.prog 76 #[.int .u64 hi, .int .u64 lo, .int .u64 y] w fun e w' => e = .returned (.tuple #[.int .u64 (p / y), .int .u64 (p % y)]) ∧ ∃ m, w' = w.drewN m := by
  subst e1 e2
  have hh0 : 0 ≤ p / 18446744073709551616 := by omega
  have hl0 : 0 ≤ p % 18446744073709551616 := by omega
  rcases Int.eq_ofNat_of_zero_le (show 0 ≤ y by omega) with ⟨y', rfl⟩
  rcases Int.eq_ofNat_of_zero_le h0 with ⟨p', rfl⟩
  have hp : p' / 18446744073709551616 * 18446744073709551616 + p' % 18446744073709551616 = p' := by rw [Nat.mul_comm]; exact Nat.div_add_mod _ _
  have eh : (p' : Int) / 18446744073709551616 = ((p' / 18446744073709551616 : Nat) : Int) := rfl
  have el : (p' : Int) % 18446744073709551616 = ((p' % 18446744073709551616 : Nat) : Int) := rfl
  rw [eh] at hh ⊢
  rw [el]
  have hlt : p' % 18446744073709551616 < 18446744073709551616 := Nat.mod_lt _ (by omega)
  have hlt' : p' / 18446744073709551616 < y' := by omega
  by_cases hz : p' / 18446744073709551616 = 0
  · have e : p' % 18446744073709551616 = p' := by rw [hz] at hp; omega
    rw [hz, e]
    rw [e] at hlt
    refine div64_zero (p' : Int) (y' : Int) (by omega) (by omega) ?_ w
    have e3 : ((p' : Int).tdiv (y' : Int)) = ((p' / y' : Nat) : Int) := (Int.ofNat_tdiv _ _).symm
    rw [e3, wr, Nat.mod_eq_of_lt (Nat.lt_of_le_of_lt (Nat.div_le_self _ _) hlt)]
    rfl
  · have := div64_any (p' / 18446744073709551616) (p' % 18446744073709551616) y' hlt (by omega) (by omega) hlt' w
    rw [hp] at this
    exact this

set_option maxRecDepth 100000 in
theorem parts_fits (a b c hi lo q r : Int) (e1 : Sat.num a * Sat.num b / 18446744073709551616 = hi) (e2 : Sat.num a * Sat.num b % 18446744073709551616 = lo) (h : hi < Sat.num c)
    (eq : Sat.num a * Sat.num b / Sat.num c = q) (er : Sat.num a * Sat.num b % Sat.num c = r) (w : World) :
    Calls Tryd.prog 70 #[.int .i64 a, .int .i64 b, .int .i64 c] w fun e w' => e = .returned (.tuple #[.int .u64 q, .int .u64 r, .bool true]) ∧ Below w.heap.size w w' := by
  have HD := Lib.hid (div64_all _ (Sat.num c) hi lo e1 e2 (Int.mul_nonneg (Sat.num_lo a) (Sat.num_lo b)) h (Sat.num_hi c))
  rw [eq, er] at HD
  have HM := Lib.hid (mul64_any _ _ (num_u64 a) (num_u64 b))
  rw [e1, e2] at HM
  clear e1 e2 eq er
  go_enter Tryd.func70, Tryd.ntmps70
  go_wp2_with fail
  refine (nums_any a b c _ _ (by go_simp) (by go_simp) (by go_simp)).mono ?_
  rintro e w1 ⟨rfl, rfl⟩
  go_wp2_with fail
  go_quiet ((go_at_call 75; exact quiet_left (HM.out _)))
  go_wp2_with fail
  refine (HD.out _).mono ?_
  rintro e w1 ⟨rfl, m, rfl⟩
  go_wp2_with fail
  refine bodyPost_ret (v := .tuple #[.int .u64 q, .int .u64 r, .bool true]) (by simp [results, Tryd.results70, go_sem]) rfl ⟨rfl, (by repeat (first | with_reducible assumption | with_reducible exact Below.refl _ _ | with_reducible exact later ‹_› ‹_› | refine later ?_ (by with_reducible assumption) | refine laterA ?_ _ | refine laterDN ?_ _ | refine laterD ?_ | refine laterR ?_ _ _))⟩

/-! ### What is asked of the parts, in the spec's words -/
theorem not_quo {a b c : Int} (h : Sat.num c ≤ Sat.num a * Sat.num b / 18446744073709551616) : Sat.quo a b c = 9007199254740991 ∧ Sat.rest a b c = 0 := by
  unfold Sat.quo Sat.rest
  by_cases hc : Sat.num c = 0
  · simp [hc]
  · rw [if_neg hc, if_neg hc]
    have c0 := Sat.num_lo c
    have hb : 18446744073709551616 ≤ Sat.num a * Sat.num b / Sat.num c := by
      rw [Int.le_ediv_iff_mul_le (by omega)]
      rw [Int.le_ediv_iff_mul_le (by omega)] at h
      rw [Int.mul_comm]; exact h
    generalize Sat.num a * Sat.num b / Sat.num c = q at *
    exact ⟨by omega, by rw [if_pos (by omega)]⟩

theorem fits_quo {a b c : Int} (h : Sat.num a * Sat.num b / 18446744073709551616 < Sat.num c) :
    Sat.quo a b c = min (Sat.num a * Sat.num b / Sat.num c) 9007199254740991 ∧ Sat.rest a b c = (if 9007199254740991 < Sat.num a * Sat.num b / Sat.num c then 0 else Sat.num a * Sat.num b % Sat.num c) ∧
    0 ≤ Sat.num a * Sat.num b / Sat.num c ∧ 0 ≤ Sat.num a * Sat.num b % Sat.num c ∧ Sat.num a * Sat.num b % Sat.num c ≤ 9007199254740991 := by
  have h0 := Int.mul_nonneg (Sat.num_lo a) (Sat.num_lo b)
  have hc : 0 < Sat.num c := by
    have : 0 ≤ Sat.num a * Sat.num b / 18446744073709551616 := Int.ediv_nonneg h0 (by omega)
    omega
  have hne : Sat.num c ≠ 0 := by omega
  have c1 := Sat.num_hi c
  have r1 := Int.emod_lt_of_pos (Sat.num a * Sat.num b) hc
  refine ⟨by unfold Sat.quo; rw [if_neg hne], by unfold Sat.rest; rw [if_neg hne], Int.ediv_nonneg h0 (by omega), Int.emod_nonneg _ hne, by omega⟩

/-! ### Times -/
end Go.Proofs.YtpagdcobhbkabaaDoor
