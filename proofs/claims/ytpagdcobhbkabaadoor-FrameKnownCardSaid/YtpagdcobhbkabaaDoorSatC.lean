/-
  The document's answer for products and quotients, bit by bit: what it returns, of all numbers.
-/
import Derived.Test.YtpagdcobhbkabaaDoorSatB
namespace Go.Proofs.YtpagdcobhbkabaaDoor
open Go.RowKit Go.Sort

/-- The loop's state when the bits of a above 2^j have been read. -/
def BitSt (A B C : Int) (j : Nat) (q l bit : Int) : Prop := q = A / 2 ^ j * B / C ∧ l = A / 2 ^ j * B % C ∧ bit = 2 ^ j / 2 ∧ q ≤ 9007199254740991

theorem bit_next (A B C : Int) (j : Nat) (c0 : 0 < C) : A / 2 ^ j * B / C = 2 * (A / 2 ^ (j + 1) * B / C) + (2 * (A / 2 ^ (j + 1) * B % C) + A / 2 ^ j % 2 * B) / C ∧
    A / 2 ^ j * B % C = (2 * (A / 2 ^ (j + 1) * B % C) + A / 2 ^ j % 2 * B) % C := by
  have e1 : A / 2 ^ (j + 1) = A / 2 ^ j / 2 := by rw [Int.pow_succ, Int.ediv_ediv_of_nonneg (Int.le_of_lt (Int.pow_pos (by omega)))]
  rw [e1]
  generalize A / 2 ^ j = p
  have e2 := Int.mul_ediv_add_emod p 2
  generalize p / 2 = p' at *
  generalize p % 2 = t at *
  have e3 := Int.mul_ediv_add_emod (p' * B) C
  generalize p' * B / C = Q at *
  generalize p' * B % C = R at *
  have e4 : p * B = 2 * R + t * B + C * (2 * Q) := by
    rw [← e2, Int.add_mul, Int.mul_assoc, ← e3, Int.mul_add, Int.mul_left_comm]
    omega
  rw [e4, Int.add_mul_ediv_left _ _ (by omega), Int.add_mul_emod_self_left]
  exact ⟨by omega, rfl⟩

theorem bit_le (A B C : Int) (j : Nat) (a0 : 0 ≤ A) (b0 : 0 ≤ B) (c0 : 0 < C) : A / 2 ^ j * B / C ≤ A * B / C :=
  Int.ediv_le_ediv c0 (Int.mul_le_mul_of_nonneg_right (Int.ediv_le_self _ a0) b0)

/-- All that the walk of one round asks. -/
theorem bit_round {A B C q l bit : Int} {j : Nat} (a0 : 0 ≤ A) (b0 : 0 ≤ B) (c0 : 0 < C) (hj : j ≤ 53) (h : BitSt A B C j q l bit) :
    0 ≤ q ∧ q ≤ 9007199254740991 ∧ 0 ≤ l ∧ l < C ∧
    (bit = 0 ∧ q = A * B / C ∧ l = A * B % C ∨
     0 < bit ∧ bit ≤ 4503599627370496 ∧ ∃ k, j = k + 1 ∧ A / bit % 2 = A / 2 ^ k % 2 ∧ (∀ x y, x = 2 * q + (2 * l + A / 2 ^ k % 2 * B) / C → y = (2 * l + A / 2 ^ k % 2 * B) % C → x ≤ A * B / C ∧ (x ≤ 9007199254740991 → BitSt A B C k x y (bit / 2)))) := by
  obtain ⟨hq, hl, hb, hm⟩ := h
  have hp : ∀ k : Nat, (0 : Int) < 2 ^ k := fun k => Int.pow_pos (by omega)
  refine ⟨by rw [hq]; exact Int.ediv_nonneg (Int.mul_nonneg (Int.ediv_nonneg a0 (Int.le_of_lt (hp j))) b0) (by omega), hm, by rw [hl]; exact Int.emod_nonneg _ (by omega), by rw [hl]; exact Int.emod_lt_of_pos _ c0, ?_⟩
  cases j with
  | zero => simp at hq hl hb; exact .inl ⟨hb, hq, hl⟩
  | succ k =>
    have hb' : bit = 2 ^ k := by rw [hb, Int.pow_succ]; exact Int.mul_ediv_cancel _ (by omega)
    refine .inr ⟨by rw [hb']; exact hp k, ?_, k, rfl, by rw [hb'], ?_⟩
    · rw [hb']
      have : (2 : Int) ^ k ≤ 2 ^ 52 := by
        have h2 : (2 : Nat) ^ k ≤ 2 ^ 52 := Nat.pow_le_pow_right (by omega) (by omega)
        have h3 : ((2 ^ k : Nat) : Int) ≤ ((2 ^ 52 : Nat) : Int) := by exact_mod_cast h2
        simpa using h3
      exact this
    · intro x y hx hy
      obtain ⟨n1, n2⟩ := bit_next A B C k c0
      rw [← hq, ← hl] at n1
      rw [← hl] at n2
      rw [← n1] at hx
      rw [← n2] at hy
      exact ⟨by rw [hx]; exact bit_le A B C k a0 b0 c0, fun hx' => ⟨hx, hy, by rw [hb'], hx'⟩⟩

end Go.Proofs.YtpagdcobhbkabaaDoor
