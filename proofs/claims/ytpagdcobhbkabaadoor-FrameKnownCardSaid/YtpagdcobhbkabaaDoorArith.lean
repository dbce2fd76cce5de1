/-
  Plain arithmetic under math/bits.Div64 and package sat (no program in sight): Knuth's division by digits of 32 bits gives quotient and remainder.
  Conditions: the divisor is normalized (its highest bit is set) and greater than the high word.
-/
import Derived.Lib.BitFns
namespace Go.Proofs.YtpagdcobhbkabaaDoor
namespace Knuth

/-- At the loop's head: the estimate is never too small, and at most two too great. -/
theorem start {B y1 y0 u u1 : Nat} (h1 : 0 < y1) (hB : B ≤ 2 * y1) (h0 : y0 < B) (hu : u < y1 * B + y0) (hu1 : u1 < B) :
    u * B + u1 < (u / y1 + 1) * (y1 * B + y0) ∧ u / y1 ≤ B + 1 ∧ u = u / y1 * y1 + u % y1 ∧ u % y1 < y1 := by
  have hq : u < (u / y1 + 1) * y1 := by have := Nat.lt_mul_div_succ u h1; rwa [Nat.mul_comm] at this
  refine ⟨?_, ?_, ?_, Nat.mod_lt _ h1⟩
  · have h2 : (u + 1) * B ≤ (u / y1 + 1) * y1 * B := Nat.mul_le_mul_right B hq
    have h3 : (u / y1 + 1) * (y1 * B + y0) = (u / y1 + 1) * y1 * B + (u / y1 + 1) * y0 := by rw [Nat.mul_add, Nat.mul_assoc]
    have h4 : (u + 1) * B = u * B + B := by rw [Nat.add_mul, Nat.one_mul]
    omega
  · have h5 : u / y1 < B + 2 := by
      rw [Nat.div_lt_iff_lt_mul h1]
      have : (B + 2) * y1 = y1 * B + 2 * y1 := by rw [Nat.add_mul, Nat.mul_comm B]
      omega
    omega
  · have := Nat.div_add_mod u y1
    rw [Nat.mul_comm] at this
    omega

/-- The estimate passes the test: it is the digit. -/
theorem done {B y1 y0 u u1 q r : Nat} (hu : u = q * y1 + r) (hl : u * B + u1 < (q + 1) * (y1 * B + y0)) (ht : q * y0 ≤ B * r + u1) :
    q * (y1 * B + y0) ≤ u * B + u1 ∧ u * B + u1 < (q + 1) * (y1 * B + y0) := by
  refine ⟨?_, hl⟩
  have e1 : q * (y1 * B + y0) = q * y1 * B + q * y0 := by rw [Nat.mul_add, Nat.mul_assoc]
  have e2 : u * B = q * y1 * B + r * B := by rw [hu, Nat.add_mul]
  have e3 : B * r = r * B := Nat.mul_comm _ _
  omega

/-- The estimate is too great: one less is not too small. -/
theorem less {B y1 y0 u u1 q r : Nat} (hu : u = q * y1 + r) (huy : u < y1 * B + y0) (hu1 : u1 < B) (ht : B ≤ q ∨ B * r + u1 < q * y0) :
    ∃ p, q = p + 1 ∧ u = p * y1 + (r + y1) ∧ u * B + u1 < (p + 1) * (y1 * B + y0) := by
  have hq : q ≠ 0 := by
    rintro rfl
    rcases ht with h | h <;> simp at h
    omega
  obtain ⟨p, rfl⟩ : ∃ p, q = p + 1 := ⟨q - 1, by omega⟩
  refine ⟨p, rfl, ?_, ?_⟩
  · rw [Nat.add_mul, Nat.one_mul] at hu; omega
  · rcases ht with h | h
    · have h1 : B * (y1 * B + y0) ≤ (p + 1) * (y1 * B + y0) := Nat.mul_le_mul_right _ h
      have h2 : (u + 1) * B ≤ (y1 * B + y0) * B := Nat.mul_le_mul_right B huy
      have h3 : (u + 1) * B = u * B + B := by rw [Nat.add_mul, Nat.one_mul]
      have h4 : (y1 * B + y0) * B = B * (y1 * B + y0) := Nat.mul_comm _ _
      omega
    · have e1 : (p + 1) * (y1 * B + y0) = (p + 1) * y1 * B + (p + 1) * y0 := by rw [Nat.mul_add, Nat.mul_assoc]
      have e2 : u * B = (p + 1) * y1 * B + r * B := by
        have : u * B = ((p + 1) * y1 + r) * B := by rw [← hu]
        rw [this, Nat.add_mul]
      have e3 : B * r = r * B := Nat.mul_comm _ _
      omega

/-- The rest of the estimate has left the digit's range: the estimate is the digit. -/
theorem broke {B y1 y0 u u1 q r : Nat} (h0 : y0 < B) (hq : q ≤ B) (hr : B ≤ r) (hu : u = q * y1 + r) (hl : u * B + u1 < (q + 1) * (y1 * B + y0)) :
    q * (y1 * B + y0) ≤ u * B + u1 ∧ u * B + u1 < (q + 1) * (y1 * B + y0) := by
  refine done hu hl ?_
  have h1 : q * y0 ≤ B * B := Nat.mul_le_mul hq (by omega)
  have h2 : B * B ≤ B * r := Nat.mul_le_mul_left B hr
  omega

theorem digit {y n q : Nat} (h1 : q * y ≤ n) (h2 : n < (q + 1) * y) : n / y = q ∧ n % y = n - q * y := by
  have hy : 0 < y := by
    rcases Nat.eq_zero_or_pos y with h | h
    · subst h; simp at h2
    · exact h
  have e : (q + 1) * y = q * y + y := by rw [Nat.add_mul, Nat.one_mul]
  have e2 : y * q = q * y := Nat.mul_comm _ _
  exact (Nat.div_mod_unique hy).2 ⟨by omega, by omega⟩

/-- Two digits. -/
theorem two {B y u u1 u0 : Nat} (hy : 0 < y) :
    ((u * B + u1) * B + u0) / y = (u * B + u1) / y * B + ((u * B + u1) % y * B + u0) / y ∧ ((u * B + u1) * B + u0) % y = ((u * B + u1) % y * B + u0) % y := by
  have e := Nat.div_add_mod (u * B + u1) y
  generalize (u * B + u1) / y = q at *
  generalize (u * B + u1) % y = r at *
  rw [← e]
  have e2 : (y * q + r) * B + u0 = r * B + u0 + y * (q * B) := by rw [Nat.add_mul, Nat.mul_assoc]; omega
  rw [e2, Nat.add_mul_div_left _ _ hy, Nat.add_mul_mod_self_left]
  exact ⟨by omega, rfl⟩

/-- Dividend and divisor, both moved up by the same power. -/
theorem moved (n y k : Nat) (hk : 0 < k) : n * k / (y * k) = n / y ∧ n * k % (y * k) = n % y * k := ⟨Nat.mul_div_mul_right _ _ hk, Nat.mul_mod_mul_right _ _ _⟩

/-- What holds at the loop's head; what the loop is to find. -/
def Inv (y1 y0 u u1 q r : Nat) : Prop := u = q * y1 + r ∧ u * 4294967296 + u1 < (q + 1) * (y1 * 4294967296 + y0) ∧ q ≤ 4294967297 ∧ r < 4294967296
def Dig (y n q : Nat) : Prop := q * y ≤ n ∧ n < (q + 1) * y

theorem inv_start {y1 y0 u u1 : Nat} (h1 : 2147483648 ≤ y1) (h2 : y1 < 4294967296) (h0 : y0 < 4294967296) (hu : u < y1 * 4294967296 + y0) (hu1 : u1 < 4294967296) : Inv y1 y0 u u1 (u / y1) (u % y1) := by
  obtain ⟨a, b, c, d⟩ := start (B := 4294967296) (y1 := y1) (y0 := y0) (u := u) (u1 := u1) (by omega) (by omega) h0 hu hu1
  exact ⟨c, a, b, by omega⟩

theorem inv_cases {y1 y0 u u1 q r : Nat} (h0 : y0 < 4294967296) (hu : u < y1 * 4294967296 + y0) (hu1 : u1 < 4294967296) (h : Inv y1 y0 u u1 q r) :
    (q < 4294967296 ∧ q * y0 ≤ 4294967296 * r + u1 ∧ Dig (y1 * 4294967296 + y0) (u * 4294967296 + u1) q) ∨
    ∃ p, q = p + 1 ∧ (4294967296 ≤ p + 1 ∨ p + 1 < 4294967296 ∧ 4294967296 * r + u1 < (p + 1) * y0) ∧
      (r + y1 < 4294967296 ∧ Inv y1 y0 u u1 p (r + y1) ∨ 4294967296 ≤ r + y1 ∧ Dig (y1 * 4294967296 + y0) (u * 4294967296 + u1) p) := by
  obtain ⟨a, b, c, d⟩ := h
  by_cases ht : 4294967296 ≤ q ∨ 4294967296 * r + u1 < q * y0
  · obtain ⟨p, rfl, e, f⟩ := less a hu hu1 ht
    refine .inr ⟨p, rfl, by omega, ?_⟩
    by_cases hb : r + y1 < 4294967296
    · exact .inl ⟨hb, e, f, by omega, hb⟩
    · exact .inr ⟨by omega, broke h0 (by omega) (by omega) e f⟩
  · exact .inl ⟨by omega, by omega, done a b (by omega)⟩

theorem dig_lt {y n q B : Nat} (h : Dig y n q) (hn : n < B * y) : q < B := by
  have h1 : q * y < B * y := Nat.lt_of_le_of_lt h.1 hn
  exact Nat.lt_of_mul_lt_mul_right h1

theorem prod_lt {q y0 : Nat} (hq : q ≤ 4294967297) (h0 : y0 < 4294967296) : q * y0 < 18446744073709551616 := by
  have := Nat.mul_le_mul hq (show y0 ≤ 4294967295 by omega)
  omega

/-! ### The length in bits, and the divisor moved up till its highest bit is set -/

theorem len_le : ∀ (f x : Nat), Lib.bitLenAux f x ≤ f
  | 0, _ => by simp [Lib.bitLenAux]
  | f + 1, x => by
    have := len_le f (x / 2)
    unfold Lib.bitLenAux
    split <;> omega

theorem len_hi : ∀ (f x : Nat), x < 2 ^ f → x < 2 ^ Lib.bitLenAux f x
  | 0, x, h => by simpa [Lib.bitLenAux] using h
  | f + 1, x, h => by
    have ih := len_hi f (x / 2) (by rw [Nat.pow_succ] at h; omega)
    unfold Lib.bitLenAux
    split
    · omega
    · rw [Nat.add_comm, Nat.pow_succ]; omega

theorem len_lo : ∀ (f x : Nat), 0 < x → 2 ^ Lib.bitLenAux f x ≤ 2 * x
  | 0, x, h => by simp [Lib.bitLenAux]; omega
  | f + 1, x, h => by
    unfold Lib.bitLenAux
    rw [if_neg (by omega), Nat.add_comm, Nat.pow_succ]
    rcases Nat.eq_zero_or_pos (x / 2) with h0 | h0
    · rw [h0]
      have : Lib.bitLenAux f 0 = 0 := by cases f <;> simp [Lib.bitLenAux]
      rw [this]; omega
    · have := len_lo f (x / 2) h0
      omega

/-- What the program computes ahead of its two digits. -/
theorem norm (hi lo y : Nat) (h0 : 0 < y) (hy : y < 18446744073709551616) (hh : hi < y) (hlo : lo < 18446744073709551616) :
    ∃ s : Nat, s ≤ 63 ∧ (64 : Int) - (Lib.bitLen y : Int) = (s : Int) ∧ 0 < 2 ^ s ∧ y * 2 ^ s < 18446744073709551616 ∧ 9223372036854775808 ≤ y * 2 ^ s ∧
      hi * 2 ^ s + lo / 2 ^ (64 - s) < y * 2 ^ s ∧ (hi * 2 ^ s ||| lo / 2 ^ (64 - s)) = hi * 2 ^ s + lo / 2 ^ (64 - s) ∧
      (hi * 18446744073709551616 + lo) * 2 ^ s = (hi * 2 ^ s + lo / 2 ^ (64 - s)) * 18446744073709551616 + lo * 2 ^ s % 18446744073709551616 := by
  have l1 : Lib.bitLen y ≤ 64 := len_le 64 y
  have l2 : y < 2 ^ Lib.bitLen y := len_hi 64 y hy
  have l3 : 2 ^ Lib.bitLen y ≤ 2 * y := len_lo 64 y h0
  have l4 : 1 ≤ Lib.bitLen y := by
    rcases Nat.eq_zero_or_pos (Lib.bitLen y) with h | h
    · rw [h] at l2; omega
    · exact h
  refine ⟨64 - Lib.bitLen y, by omega, by omega, Nat.two_pow_pos _, ?_⟩
  generalize Lib.bitLen y = L at *
  obtain ⟨s, rfl⟩ : ∃ s, L = 64 - s := ⟨64 - L, by omega⟩
  have hs : s ≤ 63 := by omega
  have e0 : 64 - (64 - s) = s := by omega
  rw [e0]
  have hp : (2 : Nat) ^ (64 - s) * 2 ^ s = 18446744073709551616 := by
    rw [← Nat.pow_add, show 64 - s + s = 64 from by omega]
  have pk : 0 < 2 ^ s := Nat.two_pow_pos s
  generalize hk : (2 : Nat) ^ s = k at *
  generalize hm : (2 : Nat) ^ (64 - s) = m at *
  have y1 : y * k < m * k := Nat.mul_lt_mul_of_pos_right l2 pk
  have y2 : m * k ≤ 2 * y * k := Nat.mul_le_mul_right k l3
  have y3 : 2 * y * k = 2 * (y * k) := Nat.mul_assoc _ _ _
  have pm : 0 < m := by
    rcases Nat.eq_zero_or_pos m with h | h
    · subst h; simp at hp
    · exact h
  have lt : lo / m < k := by
    rw [Nat.div_lt_iff_lt_mul pm, Nat.mul_comm]; omega
  have h1 : (hi + 1) * k ≤ y * k := Nat.mul_le_mul_right k hh
  have h2 : (hi + 1) * k = hi * k + k := by rw [Nat.add_mul, Nat.one_mul]
  refine ⟨by omega, by omega, by omega, ?_, ?_⟩
  · have := Nat.shiftLeft_add_eq_or_of_lt (a := hi) (b := lo / m) (i := s) (by rw [hk]; exact lt)
    rw [Nat.shiftLeft_eq, hk] at this
    exact this.symm
  · have e1 : lo * k / (m * k) = lo / m := Nat.mul_div_mul_right _ _ pk
    have e2 := Nat.div_add_mod (lo * k) (m * k)
    rw [e1, hp] at e2
    have e3 : (hi * 18446744073709551616 + lo) * k = hi * k * 18446744073709551616 + lo * k := by
      rw [Nat.add_mul, Nat.mul_right_comm]
    have e4 : (hi * k + lo / m) * 18446744073709551616 = hi * k * 18446744073709551616 + 18446744073709551616 * (lo / m) := by rw [Nat.add_mul, Nat.mul_comm (lo / m)]
    rw [e3, e4, Nat.add_assoc, e2]

end Knuth
end Go.Proofs.YtpagdcobhbkabaaDoor
