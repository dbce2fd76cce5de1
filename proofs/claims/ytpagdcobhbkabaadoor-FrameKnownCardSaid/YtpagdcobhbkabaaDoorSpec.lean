/-
  What package sat computes, in plain Lean (no program in sight): numbers from 0 to 2^53 - 1, sums, products, quotients and rests that are cut at the ends; times. And the plain laws on them.
-/
namespace Go.Proofs.YtpagdcobhbkabaaDoor
namespace Sat

/-- As what a number counts. -/
def num (n : Int) : Int := max 0 (min n 9007199254740991)
def isN (n : Int) : Bool := decide (0 ≤ n ∧ n ≤ 9007199254740991)
def add (a b : Int) : Int := num (num a + num b)
def sub (a b : Int) : Int := num (num a - num b)
/-- a b / c and what is left, all three as they count. -/
def quo (a b c : Int) : Int := if num c = 0 then 9007199254740991 else min (num a * num b / num c) 9007199254740991
def rest (a b c : Int) : Int := if num c = 0 then 0 else if 9007199254740991 < num a * num b / num c then 0 else num a * num b % num c
def up (a b c : Int) : Int := if 0 < rest a b c then num (quo a b c + 1) else quo a b c
def mul (a b : Int) : Int := quo a b 1
def isT (t : Int) : Bool := t == -1 || isN t
/-- The time that something counts as; its rank among times (Never is behind all). -/
def tm (t : Int) : Int := if isN t then t else -1
def rank (t : Int) : Int := if isN t then t else 18446744073709551615
def earlier (a b : Int) : Int := if tm a = -1 ∨ tm b ≠ -1 ∧ tm b < tm a then tm b else tm a
def later (a b : Int) : Int := if tm a = -1 ∨ tm b = -1 then -1 else max (tm a) (tm b)
def ends (t d : Int) : Int := if isN t then add t d else -1

theorem num_lo (n : Int) : 0 ≤ num n := by unfold num; omega
theorem num_hi (n : Int) : num n ≤ 9007199254740991 := by unfold num; omega
theorem num_id {n : Int} (h0 : 0 ≤ n) (h1 : n ≤ 9007199254740991) : num n = n := by unfold num; omega
theorem num_num (n : Int) : num (num n) = num n := num_id (num_lo n) (num_hi n)
theorem isN_iff (n : Int) : isN n = true ↔ 0 ≤ n ∧ n ≤ 9007199254740991 := by unfold isN; simp
theorem isN_num (n : Int) : isN n = (n == num n) := by
  rw [Bool.eq_iff_iff, isN_iff, beq_iff_eq]; unfold num; omega

theorem quo_lo (a b c : Int) : 0 ≤ quo a b c := by
  have h := Int.ediv_nonneg (Int.mul_nonneg (num_lo a) (num_lo b)) (num_lo c)
  unfold quo
  split <;> omega
theorem quo_hi (a b c : Int) : quo a b c ≤ 9007199254740991 := by
  unfold quo
  split <;> omega

end Sat
end Go.Proofs.YtpagdcobhbkabaaDoor
