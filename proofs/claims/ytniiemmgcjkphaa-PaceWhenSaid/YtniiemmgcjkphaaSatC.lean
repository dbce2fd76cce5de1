/-
  The document's answer for products and quotients, bit by bit: what it returns, of all numbers.
-/
import Derived.Test.YtniiemmgcjkphaaSatB
namespace Go.Proofs.Ytniiemmgcjkphaa
open Go.RowKit Go.Sort

/-- The loop's state when the bits of a above 2^j have been read. -/
def BitSt (A B C : Int) (j : Nat) (q l bit : Int) : Prop := q = A / 2 ^ j * B / C ∧ l = A / 2 ^ j * B % C ∧ bit = 2 ^ j / 2 ∧ q ≤ 9007199254740991

theorem bit_next (A B C : Int) (j : Nat) (c0 : 0 < C) : A / 2 ^ j * B / C = 2 * (A / 2 ^ (j + 1) * B / C) + (2 * (A / 2 ^ (j + 1) * B % C) + A / 2 ^ j % 2 * B) / C ∧
    A / 2 ^ j * B % C = (2 * (A / 2 ^ (j + 1) * B % C) + A / 2 ^ j % 2 * B) % C := by
  have e1 : A / 2 ^ (j + 1) = A / 2 ^ j / 2 := by rw [Int.pow_succ, Int.ediv_ediv_of_nonneg (Int.le_of_lt (Int.pow_pos (by omega)))]
  rw [e1]
  generalize A / 2 ^ j = p
  have e2 := Int.mul_ediv_add_emod p 2
  generalize p / 2 = p' at *
  generalize p % 2 = t at *
  have e3 := Int.mul_ediv_add_emod (p' * B) C
  generalize p' * B / C = Q at *
  generalize p' * B % C = R at *
  have e4 : p * B = 2 * R + t * B + C * (2 * Q) := by
    rw [← e2, Int.add_mul, Int.mul_assoc, ← e3, Int.mul_add, Int.mul_left_comm]
    omega
  rw [e4, Int.add_mul_ediv_left _ _ (by omega), Int.add_mul_emod_self_left]
  exact ⟨by omega, rfl⟩

theorem bit_le (A B C : Int) (j : Nat) (a0 : 0 ≤ A) (b0 : 0 ≤ B) (c0 : 0 < C) : A / 2 ^ j * B / C ≤ A * B / C :=
  Int.ediv_le_ediv c0 (Int.mul_le_mul_of_nonneg_right (Int.ediv_le_self _ a0) b0)

/-- All that the walk of one round asks. -/
theorem bit_round {A B C q l bit : Int} {j : Nat} (a0 : 0 ≤ A) (b0 : 0 ≤ B) (c0 : 0 < C) (hj : j ≤ 53) (h : BitSt A B C j q l bit) :
    0 ≤ q ∧ q ≤ 9007199254740991 ∧ 0 ≤ l ∧ l < C ∧
    (bit = 0 ∧ q = A * B / C ∧ l = A * B % C ∨
     0 < bit ∧ bit ≤ 4503599627370496 ∧ ∃ k, j = k + 1 ∧ A / bit % 2 = A / 2 ^ k % 2 ∧ (∀ x y, x = 2 * q + (2 * l + A / 2 ^ k % 2 * B) / C → y = (2 * l + A / 2 ^ k % 2 * B) % C → x ≤ A * B / C ∧ (x ≤ 9007199254740991 → BitSt A B C k x y (bit / 2)))) := by
  obtain ⟨hq, hl, hb, hm⟩ := h
  have hp : ∀ k : Nat, (0 : Int) < 2 ^ k := fun k => Int.pow_pos (by omega)
  refine ⟨by rw [hq]; exact Int.ediv_nonneg (Int.mul_nonneg (Int.ediv_nonneg a0 (Int.le_of_lt (hp j))) b0) (by omega), hm, by rw [hl]; exact Int.emod_nonneg _ (by omega), by rw [hl]; exact Int.emod_lt_of_pos _ c0, ?_⟩
  cases j with
  | zero => simp at hq hl hb; exact .inl ⟨hb, hq, hl⟩
  | succ k =>
    have hb' : bit = 2 ^ k := by rw [hb, Int.pow_succ]; exact Int.mul_ediv_cancel _ (by omega)
    refine .inr ⟨by rw [hb']; exact hp k, ?_, k, rfl, by rw [hb'], ?_⟩
    · rw [hb']
      have : (2 : Int) ^ k ≤ 2 ^ 52 := by
        have h2 : (2 : Nat) ^ k ≤ 2 ^ 52 := Nat.pow_le_pow_right (by omega) (by omega)
        have h3 : ((2 ^ k : Nat) : Int) ≤ ((2 ^ 52 : Nat) : Int) := by exact_mod_cast h2
        simpa using h3
      exact this
    · intro x y hx hy
      obtain ⟨n1, n2⟩ := bit_next A B C k c0
      rw [← hq, ← hl] at n1
      rw [← hl] at n2
      rw [← n1] at hx
      rw [← n2] at hy
      exact ⟨by rw [hx]; exact bit_le A B C k a0 b0 c0, fun hx' => ⟨hx, hy, by rw [hb'], hx'⟩⟩

set_option maxRecDepth 100000 in
set_option maxHeartbeats 1000000 in
theorem rparts_go (A B C X Y a b c : Int) (w : World) (eA : Sat.num a = A) (eB : Sat.num b = B) (eC : Sat.num c = C) (hC : (C == 0) = false) (a0 : 0 ≤ A) (a1 : A ≤ 9007199254740991) (b0 : 0 ≤ B) (b1 : B ≤ 9007199254740991)
    (c0 : 0 < C) (c1 : C ≤ 9007199254740991) (HX : Hid (A * B / C ≤ 9007199254740991 → X = A * B / C ∧ Y = A * B % C)) (HY : Hid (9007199254740991 < A * B / C → X = 9007199254740991 ∧ Y = 0)) :
    Calls Try.prog 79 #[.int .i64 a, .int .i64 b, .int .i64 c] w fun e w' => e = .returned (.tuple #[.int .i64 X, .int .i64 Y]) ∧ Below w.heap.size w w' := by
  go_enter Try.func79, Try.ntmps79
  go_wp2_with (go_at_call 80; (with_reducible refine (rnum_any _ _).mono ?_); rintro e w1 ⟨rfl, hb⟩)
  have HW : Hid (Below w.heap.size w w1) := (by repeat (first | with_reducible assumption | with_reducible exact Below.refl _ _ | with_reducible exact later ‹_› ‹_› | refine later ?_ (by with_reducible assumption) | refine laterA ?_ _ | refine laterDN ?_ _ | refine laterD ?_ | refine laterR ?_ _ _))
  go_loop [8, 9, 10] (fun q l bit => ∃ (j : Nat) (x y z : Int), q = .int .i64 x ∧ l = .int .i64 y ∧ bit = .int .i64 z ∧ j ≤ 53 ∧ BitSt A B C j x y z) (fun _ _ bit => (intOf bit).toNat)
  case atStart =>
    refine ⟨53, 0, 0, 4503599627370496, rfl, rfl, rfl, by omega, ?_⟩
    have e : A / 2 ^ 53 = 0 := Int.ediv_eq_zero_of_lt a0 (by omega)
    refine ⟨by rw [e]; simp, by rw [e]; simp, by decide, by decide⟩
  case round =>
    clear eA eB eC
    obtain ⟨j, q, l, bit, rfl, rfl, rfl, hj, hst⟩ := hrel
    obtain ⟨q0, q1, l0, l1, ⟨rfl, hq, hl⟩ | ⟨hb, hb1, k, rfl, ht, hn⟩⟩ := bit_round a0 b0 c0 hj hst
    · have HQ := Lib.hid hq
      have HL := Lib.hid hl
      have hr := HX.out (by rw [← hq]; exact q1)
      have HR := Lib.hid hr
      clear hst hq hl hr
      go_wp2
      go_ret2
      exact ⟨ri2 (by rw [HR.out.1]; exact HQ.out) (by rw [HR.out.2]; exact HL.out), HW.out⟩
    · have HN := Lib.hid hn
      have d0 : 0 ≤ A / bit := Int.ediv_nonneg a0 (by omega)
      have hb2 : bit / 2 < bit := by omega
      have HT := Lib.hid ht
      clear hst hn ht
      by_cases ht : A / bit % 2 = 1
      · have k1 : (A / bit % 2 == 1) = true := by simp [ht]
        have e0 : 0 ≤ (2 * l + B) / C := Int.ediv_nonneg (by omega) (by omega)
        have e1 : (2 * l + B) / C ≤ 2 * l + B := Int.ediv_le_self _ (by omega)
        have hn := HN.out (2 * q + (2 * l + B) / C) ((2 * l + B) % C) (by rw [← HT.out, ht, Int.one_mul]) (by rw [← HT.out, ht, Int.one_mul])
        have HN' := Lib.hid hn
        clear hn ht
        by_cases hbig : 9007199254740991 < 2 * q + (2 * l + B) / C
        · go_wp2
          go_ret2
          have hr := HY.out (Int.lt_of_lt_of_le hbig HN'.out.1)
          exact ⟨ri2 hr.1.symm hr.2.symm, HW.out⟩
        · go_wp2
          go_round
          case rel => exact ⟨k, _, _, _, rfl, rfl, rfl, by omega, HN'.out.2 (by omega)⟩
          case measure => simp [intOf]; omega
      · have ht0 : A / bit % 2 = 0 := by omega
        have k1 : (A / bit % 2 == 1) = false := by simp [ht]
        have e0 : 0 ≤ 2 * l / C := Int.ediv_nonneg (by omega) (by omega)
        have e1 : 2 * l / C ≤ 2 * l := Int.ediv_le_self _ (by omega)
        have hn := HN.out (2 * q + 2 * l / C) (2 * l % C) (by rw [← HT.out, ht0, Int.zero_mul, Int.add_zero]) (by rw [← HT.out, ht0, Int.zero_mul, Int.add_zero])
        have HN' := Lib.hid hn
        clear hn ht ht0
        by_cases hbig : 9007199254740991 < 2 * q + 2 * l / C
        · go_wp2
          go_ret2
          have hr := HY.out (Int.lt_of_lt_of_le hbig HN'.out.1)
          exact ⟨ri2 hr.1.symm hr.2.symm, HW.out⟩
        · go_wp2
          go_round
          case rel => exact ⟨k, _, _, _, rfl, rfl, rfl, by omega, HN'.out.2 (by omega)⟩
          case measure => simp [intOf]; omega

theorem rparts_any (a b c : Int) (w : World) :
    Calls Try.prog 79 #[.int .i64 a, .int .i64 b, .int .i64 c] w fun e w' => e = .returned (.tuple #[.int .i64 (Sat.quo a b c), .int .i64 (Sat.rest a b c)]) ∧ Below w.heap.size w w' := by
  by_cases hc : Sat.num c = 0
  · have e1 : Sat.quo a b c = 9007199254740991 := by unfold Sat.quo; rw [if_pos hc]
    have e2 : Sat.rest a b c = 0 := by unfold Sat.rest; rw [if_pos hc]
    have k : (Sat.num c == 0) = true := by simp [hc]
    rw [e1, e2]
    clear hc e1 e2
    go_enter Try.func79, Try.ntmps79
    go_wp2_with (go_at_call 80; (with_reducible refine (rnum_any _ _).mono ?_); rintro e w1 ⟨rfl, hb⟩)
    go_ret2
    exact ⟨rfl, (by repeat (first | with_reducible assumption | with_reducible exact Below.refl _ _ | with_reducible exact later ‹_› ‹_› | refine later ?_ (by with_reducible assumption) | refine laterA ?_ _ | refine laterDN ?_ _ | refine laterD ?_ | refine laterR ?_ _ _))⟩
  · have c0 := Sat.num_lo c
    refine rparts_go (Sat.num a) (Sat.num b) (Sat.num c) _ _ a b c w rfl rfl rfl (by simp [hc]) (Sat.num_lo a) (Sat.num_hi a) (Sat.num_lo b) (Sat.num_hi b) (by omega) (Sat.num_hi c) (fun h => ?_) (fun h => ?_)
    · unfold Sat.quo Sat.rest
      rw [if_neg hc, if_neg hc, if_neg (by omega)]
      exact ⟨by omega, rfl⟩
    · unfold Sat.quo Sat.rest
      rw [if_neg hc, if_neg hc, if_pos h]
      exact ⟨by omega, rfl⟩

theorem rmulrest_any (a b c : Int) (w : World) :
    Calls Try.prog 57 #[.int .i64 a, .int .i64 b, .int .i64 c] w fun e w' => e = .returned (.tuple #[.int .i64 (Sat.quo a b c), .int .i64 (Sat.rest a b c)]) ∧ Below w.heap.size w w' := by
  go_enter Try.func57, Try.ntmps57
  go_wp2_with (go_at_call 79; (with_reducible refine (rparts_any _ _ _ _).mono ?_); rintro e w1 ⟨rfl, hb⟩)
  go_ret2
  exact ⟨rfl, (by repeat (first | with_reducible assumption | with_reducible exact Below.refl _ _ | with_reducible exact later ‹_› ‹_› | refine later ?_ (by with_reducible assumption) | refine laterA ?_ _ | refine laterDN ?_ _ | refine laterD ?_ | refine laterR ?_ _ _))⟩

end Go.Proofs.Ytniiemmgcjkphaa
