/-
  The arithmetic under the walk of math/bits.Div64, in the model's own words for numbers that go round. No program in sight.
-/
import Derived.Test.YtpagdcobhbkabaaDoorArith
import Derived.WalkKit
import Derived.Shelf.Bits.Mul64
namespace Go.Proofs.YtpagdcobhbkabaaDoor
open Go.RowKit

/-- The ways through a round of the loop, in the walk's own forms. -/
theorem inv_ways {y1 y0 u u1 q r : Nat} (hb : y1 < 4294967296 ∧ y0 < 4294967296 ∧ u1 < 4294967296 ∧ u < y1 * 4294967296 + y0) (h : Knuth.Inv y1 y0 u u1 q r) :
    (IntKind.u64.wrap ((q : Int) * (y0 : Int)) = ((q * y0 : Nat) : Int) ∧ (q : Int) < 4294967296 ∧ ((q * y0 : Nat) : Int) ≤ 4294967296 * (r : Int) + (u1 : Int) ∧ Knuth.Dig (y1 * 4294967296 + y0) (u * 4294967296 + u1) q) ∨
    ∃ p, q = p + 1 ∧ (4294967296 ≤ (p : Int) + 1 ∨ IntKind.u64.wrap (((p : Int) + 1) * (y0 : Int)) = (((p + 1) * y0 : Nat) : Int) ∧ (p : Int) + 1 < 4294967296 ∧ 4294967296 * (r : Int) + (u1 : Int) < (((p + 1) * y0 : Nat) : Int)) ∧
      ((r : Int) + (y1 : Int) < 4294967296 ∧ Knuth.Inv y1 y0 u u1 p (r + y1) ∨ 4294967296 ≤ (r : Int) + (y1 : Int) ∧ Knuth.Dig (y1 * 4294967296 + y0) (u * 4294967296 + u1) p) := by
  have hq := h.2.2.1
  have hp := Knuth.prod_lt hq hb.2.1
  have hw : IntKind.u64.wrap ((q * y0 : Nat) : Int) = ((q * y0 : Nat) : Int) := by rw [IntKind.wrap_u64]; omega
  obtain ⟨a, b, c⟩ | ⟨p, rfl, a, b⟩ := Knuth.inv_cases hb.2.1 hb.2.2.2 hb.2.2.1 h
  · exact .inl ⟨by rw [← Int.natCast_mul]; exact hw, by omega, by omega, c⟩
  · refine .inr ⟨p, rfl, ?_, ?_⟩
    · rcases a with a | ⟨a, a'⟩
      · exact .inl (by omega)
      · refine .inr ⟨?_, by omega, by omega⟩
        rw [← hw, Int.natCast_mul]; rfl
    · rcases b with ⟨b, b'⟩ | ⟨b, b'⟩
      · exact .inl ⟨by omega, b'⟩
      · exact .inr ⟨by omega, b'⟩

/-- The same over integers that are variables (the walk unfolds an inequality between a cast and a great numeral without end). -/
def InvI (y1 y0 u u1 q r : Int) : Prop := 0 ≤ q ∧ 0 ≤ r ∧ Knuth.Inv y1.toNat y0.toNat u.toNat u1.toNat q.toNat r.toNat
def DigI (y1 y0 u u1 q : Int) : Prop := 0 ≤ q ∧ Knuth.Dig (y1.toNat * 4294967296 + y0.toNat) (u.toNat * 4294967296 + u1.toNat) q.toNat
def Bnd (y1 y0 u u1 : Int) : Prop := 0 < y1 ∧ y1 < 4294967296 ∧ 0 ≤ y0 ∧ y0 < 4294967296 ∧ 0 ≤ u1 ∧ u1 < 4294967296 ∧ 0 ≤ u ∧ u.toNat < y1.toNat * 4294967296 + y0.toNat

theorem inv_waysI {y1 y0 u u1 q r : Int} (hb : Bnd y1 y0 u u1) (h : InvI y1 y0 u u1 q r) :
    (∃ P : Int, IntKind.u64.wrap (q * y0) = P ∧ q < 4294967296 ∧ P ≤ 4294967296 * r + u1 ∧ DigI y1 y0 u u1 q) ∨
    ∃ p, q = p + 1 ∧ 0 ≤ p ∧ p ≤ 4294967296 ∧ (4294967296 ≤ p + 1 ∨ ∃ P : Int, IntKind.u64.wrap ((p + 1) * y0) = P ∧ p + 1 < 4294967296 ∧ 4294967296 * r + u1 < P) ∧
      (r + y1 < 4294967296 ∧ InvI y1 y0 u u1 p (r + y1) ∨ 4294967296 ≤ r + y1 ∧ DigI y1 y0 u u1 p) := by
  obtain ⟨g0, g1, g2, g3, g4, g5, g6, g7⟩ := hb
  obtain ⟨k0, k1, h⟩ := h
  obtain ⟨y1, rfl⟩ := Int.eq_ofNat_of_zero_le (Int.le_of_lt g0)
  obtain ⟨y0, rfl⟩ := Int.eq_ofNat_of_zero_le g2
  obtain ⟨u1, rfl⟩ := Int.eq_ofNat_of_zero_le g4
  obtain ⟨u, rfl⟩ := Int.eq_ofNat_of_zero_le g6
  obtain ⟨q, rfl⟩ := Int.eq_ofNat_of_zero_le k0
  obtain ⟨r, rfl⟩ := Int.eq_ofNat_of_zero_le k1
  simp only [Int.toNat_natCast] at *
  have hq := h.2.2.1
  obtain ⟨a, b, c, d⟩ | ⟨p, rfl, a, b⟩ := inv_ways ⟨by omega, by omega, by omega, by omega⟩ h
  · exact .inl ⟨_, a, b, c, k0, by simpa using d⟩
  · refine .inr ⟨(p : Int), by omega, by omega, by omega, ?_, ?_⟩
    · rcases a with a | ⟨a, b, c⟩
      · exact .inl a
      · exact .inr ⟨_, a, b, c⟩
    · rcases b with ⟨b, c⟩ | ⟨b, c⟩
      · refine .inl ⟨b, by omega, by omega, ?_⟩
        have e : ((r : Int) + (y1 : Int)).toNat = r + y1 := by omega
        simp only [Int.toNat_natCast, e]
        exact c
      · exact .inr ⟨b, by omega, by simpa using c⟩

/-- What the program computes behind the first digit, in the walk's own forms: to what end (A, B). -/
def Second (s : Nat) (Y Y1 Y0 U L1 L0 A B : Int) : Prop :=
  ∀ q, DigI Y1 Y0 U L1 q → ∃ T1 T2 T3 R q0 p0 r0 Q : Int, IntKind.u64.wrap (U * 4294967296) = T1 ∧ IntKind.u64.wrap (T1 + L1) = T2 ∧ IntKind.u64.wrap (q * Y) = T3 ∧ IntKind.u64.wrap (T2 - T3) = R ∧
    IntKind.u64.wrap (R.tdiv Y1) = q0 ∧ IntKind.u64.wrap (q0 * Y1) = p0 ∧ IntKind.u64.wrap (R - p0) = r0 ∧ InvI Y1 Y0 R L0 q0 r0 ∧ Bnd Y1 Y0 R L0 ∧ IntKind.u64.wrap (q * 4294967296) = Q ∧
    ∀ q2, DigI Y1 Y0 R L0 q2 → ∃ T4 T5 T6 R2 : Int, IntKind.u64.wrap (R * 4294967296) = T4 ∧ IntKind.u64.wrap (T4 + L0) = T5 ∧ IntKind.u64.wrap (q2 * Y) = T6 ∧ IntKind.u64.wrap (T5 - T6) = R2 ∧
      IntKind.u64.wrap (Q + q2) = A ∧ R2 / 2 ^ s = B

theorem wr (a : Nat) : IntKind.u64.wrap (a : Int) = ((a % 18446744073709551616 : Nat) : Int) := by rw [IntKind.wrap_u64]; omega

/-- A digit, found: the rest of the partial dividend, as the program computes it with numbers that go round. -/
theorem rest_of {Y N q : Nat} {u u1 : Int} (hY : Y < 18446744073709551616) (hN : (N : Int) = u * 4294967296 + u1) (h : Knuth.Dig Y N q) :
    IntKind.u64.wrap (IntKind.u64.wrap (IntKind.u64.wrap (u * 4294967296) + u1) - IntKind.u64.wrap ((q : Int) * (Y : Int))) = ((N % Y : Nat) : Int) := by
  have hy : 0 < Y := by
    rcases Nat.eq_zero_or_pos Y with h0 | h0
    · subst h0; have := h.2; simp at this
    · exact h0
  have e := (Knuth.digit h.1 h.2).2
  have l := Nat.mod_lt N hy
  have h1 := h.1
  rw [e] at l ⊢
  rw [← Int.natCast_mul]
  generalize q * Y = P at *
  simp only [IntKind.wrap_u64]
  omega

theorem dig_of {Y1 Y0 U L1 : Nat} {q : Int} (h : DigI Y1 Y0 U L1 q) : ∃ n : Nat, q = n ∧ Knuth.Dig (Y1 * 4294967296 + Y0) (U * 4294967296 + L1) n := by
  obtain ⟨h0, h1⟩ := h
  obtain ⟨n, rfl⟩ := Int.eq_ofNat_of_zero_le h0
  exact ⟨n, rfl, by simpa using h1⟩

theorem start_of {Y1 Y0 U L1 : Nat} (h1 : 2147483648 ≤ Y1) (h2 : Y1 < 4294967296) (h0 : Y0 < 4294967296) (hu : U < Y1 * 4294967296 + Y0) (hu1 : L1 < 4294967296) :
    ∃ q0 p0 r0 : Int, IntKind.u64.wrap ((U : Int).tdiv Y1) = q0 ∧ IntKind.u64.wrap (q0 * Y1) = p0 ∧ IntKind.u64.wrap ((U : Int) - p0) = r0 ∧ InvI Y1 Y0 U L1 q0 r0 ∧ Bnd Y1 Y0 U L1 := by
  have hi := Knuth.inv_start h1 h2 h0 hu hu1
  have e : ((U : Int).tdiv (Y1 : Int)) = ((U / Y1 : Nat) : Int) := (Int.ofNat_tdiv _ _).symm
  rw [e]
  clear e
  generalize U / Y1 = Q at *
  generalize U % Y1 = r at *
  obtain ⟨a, b, c, d⟩ := id hi
  refine ⟨(Q : Int), ((Q * Y1 : Nat) : Int), (r : Int), ?_, ?_, ?_, ⟨Int.natCast_nonneg _, Int.natCast_nonneg _, by simpa using hi⟩, by omega, by omega, by omega, by omega, by omega, by omega, by omega, by simpa using hu⟩
  · rw [wr]; omega
  · rw [← Int.natCast_mul, wr]
    generalize Q * Y1 = P at *
    omega
  · generalize Q * Y1 = P at *
    rw [IntKind.wrap_u64]
    omega

theorem join64 (U L : Nat) : (U * 4294967296 + L / 4294967296) * 4294967296 + L % 4294967296 = U * 18446744073709551616 + L := by
  have h := Nat.div_add_mod L 4294967296
  generalize L / 4294967296 = a at *
  generalize L % 4294967296 = b at *
  rw [Nat.add_mul, Nat.mul_assoc, Nat.add_assoc, Nat.mul_comm a, h]
theorem wrap_q {n : Nat} (h : n < 4294967296) : IntKind.u64.wrap ((n : Int) * 4294967296) = ((n * 4294967296 : Nat) : Int) := by rw [IntKind.wrap_u64]; omega
theorem under {U l Y : Nat} (h : U < Y) (hl : l < 4294967296) : U * 4294967296 + l < 4294967296 * Y := by omega
theorem cast_two (u l : Nat) : ((u * 4294967296 + l : Nat) : Int) = (u : Int) * 4294967296 + (l : Int) := by omega
theorem two_lt {a b : Nat} (ha : a < 4294967296) (hb : b < 4294967296) : a * 4294967296 + b < 18446744073709551616 := by omega
/-- All that the walk of Div64 asks, out of the three numbers. -/
theorem asks (hi lo y : Nat) (hlo : lo < 18446744073709551616) (hy : y < 18446744073709551616) (hh : hi < y) :
    ∃ (s : Nat) (Y Y1 Y0 U H Lh Lw L1 L0 q0 r0 p0 : Int), ¬ Y1 = 0 ∧ s ≤ 63 ∧ (64 : Int) - (Lib.bitLen y : Int) = (s : Int) ∧ IntKind.u64.wrap ((y : Int) * 2 ^ s) = Y ∧ Y / 4294967296 = Y1 ∧ bits .and .u64 Y 4294967295 = Y0 ∧
      IntKind.u64.wrap ((hi : Int) * 2 ^ s) = H ∧ (lo : Int) / 2 ^ (64 - s) = Lh ∧ bits .or .u64 H Lh = U ∧ IntKind.u64.wrap ((lo : Int) * 2 ^ s) = Lw ∧ Lw / 4294967296 = L1 ∧ bits .and .u64 Lw 4294967295 = L0 ∧
      Bnd Y1 Y0 U L1 ∧ IntKind.u64.wrap (U.tdiv Y1) = q0 ∧ IntKind.u64.wrap (q0 * Y1) = p0 ∧ IntKind.u64.wrap (U - p0) = r0 ∧ InvI Y1 Y0 U L1 q0 r0 ∧
      Second s Y Y1 Y0 U L1 L0 (((hi * 18446744073709551616 + lo) / y : Nat) : Int) (((hi * 18446744073709551616 + lo) % y : Nat) : Int) := by
  obtain ⟨s, hs, hl, hk, hY, hY2, hU, hor, hD⟩ := Knuth.norm hi lo y (by omega) hy hh hlo
  obtain ⟨m1, m2⟩ := Knuth.moved (hi * 18446744073709551616 + lo) y (2 ^ s) hk
  rw [hD] at m1 m2
  have ek : ((2 : Int) ^ s) = ((2 ^ s : Nat) : Int) := by rw [Int.natCast_pow]; rfl
  have em : ((2 : Int) ^ (64 - s)) = ((2 ^ (64 - s) : Nat) : Int) := by rw [Int.natCast_pow]; rfl
  have hlh : lo / 2 ^ (64 - s) < 18446744073709551616 := Nat.lt_of_le_of_lt (Nat.div_le_self _ _) hlo
  have hL : lo * 2 ^ s % 18446744073709551616 < 18446744073709551616 := Nat.mod_lt _ (by omega)
  have e1 : IntKind.u64.wrap ((y : Int) * ((2 ^ s : Nat) : Int)) = ((y * 2 ^ s : Nat) : Int) := by rw [← Int.natCast_mul, wr, Nat.mod_eq_of_lt hY]
  have hH : hi * 2 ^ s < 18446744073709551616 := Nat.lt_of_le_of_lt (Nat.le_add_right _ _) (Nat.lt_trans hU hY)
  have e4 : IntKind.u64.wrap ((hi : Int) * ((2 ^ s : Nat) : Int)) = ((hi * 2 ^ s : Nat) : Int) := by rw [← Int.natCast_mul, wr, Nat.mod_eq_of_lt hH]
  have e5 : (lo : Int) / ((2 ^ (64 - s) : Nat) : Int) = ((lo / 2 ^ (64 - s) : Nat) : Int) := (Int.natCast_ediv _ _).symm
  have e6 : bits .or .u64 ((hi * 2 ^ s : Nat) : Int) ((lo / 2 ^ (64 - s) : Nat) : Int) = ((hi * 2 ^ s + lo / 2 ^ (64 - s) : Nat) : Int) := by rw [bits_or_u64_nat _ _ hH hlh, hor]
  have e7 : IntKind.u64.wrap ((lo : Int) * ((2 ^ s : Nat) : Int)) = ((lo * 2 ^ s % 18446744073709551616 : Nat) : Int) := by rw [← Int.natCast_mul, wr]
  have e3 := Mul64.maskN _ hY
  have e9 := Mul64.maskN _ hL
  clear hor hlh hH hD
  generalize hYv : y * 2 ^ s = Y at *
  generalize hUv : hi * 2 ^ s + lo / 2 ^ (64 - s) = U at *
  generalize hLv : lo * 2 ^ s % 18446744073709551616 = L at *
  generalize hi * 2 ^ s = H at *
  generalize lo / 2 ^ (64 - s) = Lh at *
  rw [← ek] at e1 e4 e7
  rw [← em] at e5
  clear em hYv hUv hLv
  have y1 : 2147483648 ≤ Y / 4294967296 := by omega
  have y2 : Y / 4294967296 < 4294967296 := by omega
  have y3 : Y % 4294967296 < 4294967296 := by omega
  have y4 : L / 4294967296 < 4294967296 := by omega
  have y5 : L % 4294967296 < 4294967296 := by omega
  have eY : Y / 4294967296 * 4294967296 + Y % 4294967296 = Y := by omega
  obtain ⟨q0, p0, r0, s1, s2, s3, s4, s5⟩ := start_of (Y1 := Y / 4294967296) (Y0 := Y % 4294967296) (U := U) (L1 := L / 4294967296) y1 y2 y3 (by omega) y4
  refine ⟨s, (Y : Int), ((Y / 4294967296 : Nat) : Int), ((Y % 4294967296 : Nat) : Int), (U : Int), (H : Int), (Lh : Int), (L : Int), ((L / 4294967296 : Nat) : Int), ((L % 4294967296 : Nat) : Int), q0, r0, p0, by omega, hs, hl, e1, by omega, e3, e4, e5, e6, e7, by omega, e9, s5, s1, s2, s3, s4, ?_⟩
  clear s1 s2 s3 s4 s5 e1 e3 e4 e5 e6 e7 e9
  intro q hq
  obtain ⟨n, rfl, hn⟩ := dig_of hq
  rw [eY] at hn
  have hUB : U * 4294967296 + L / 4294967296 < 4294967296 * Y := under hU y4
  have hn32 : n < 4294967296 := Knuth.dig_lt hn hUB
  have r1 := rest_of hY (u := (U : Int)) (u1 := ((L / 4294967296 : Nat) : Int)) (cast_two _ _) hn
  have rl : (U * 4294967296 + L / 4294967296) % Y < Y := Nat.mod_lt _ (by omega)
  have tw := Knuth.two (B := 4294967296) (y := Y) (u := U) (u1 := L / 4294967296) (u0 := L % 4294967296) (by omega)
  have e64 : (U * 4294967296 + L / 4294967296) * 4294967296 + L % 4294967296 = U * 18446744073709551616 + L := join64 U L
  have hq1 := (Knuth.digit hn.1 hn.2).1
  rw [e64, hq1, m1, m2] at tw
  clear hq hn hUB e64 hq1 m1 m2 hU
  obtain ⟨R, hR⟩ : ∃ R, (U * 4294967296 + L / 4294967296) % Y = R := ⟨_, rfl⟩
  rw [hR] at r1 rl tw
  clear hR
  obtain ⟨q0', p0', r0', t1, t2, t3, t4, t5⟩ := start_of (Y1 := Y / 4294967296) (Y0 := Y % 4294967296) (U := R) (L1 := L % 4294967296) y1 y2 y3 (by rw [eY]; exact rl) y5
  refine ⟨_, _, _, (R : Int), q0', p0', r0', ((n * 4294967296 : Nat) : Int), rfl, rfl, rfl, r1, t1, t2, t3, t4, t5, wrap_q hn32, ?_⟩
  clear t1 t2 t3 t4 t5 r1
  intro q2 hq2
  obtain ⟨n2, rfl, hn2⟩ := dig_of hq2
  rw [eY] at hn2
  have hRB : R * 4294967296 + L % 4294967296 < 4294967296 * Y := under rl y5
  have hn232 : n2 < 4294967296 := Knuth.dig_lt hn2 hRB
  have r2 := rest_of hY (u := (R : Int)) (u1 := ((L % 4294967296 : Nat) : Int)) (cast_two _ _) hn2
  have hq2' := (Knuth.digit hn2.1 hn2.2).1
  rw [hq2'] at tw
  obtain ⟨t1, t2⟩ := tw
  refine ⟨_, _, _, _, rfl, rfl, rfl, r2, ?_, ?_⟩
  · rw [← Int.natCast_add, wr, t1, Nat.mod_eq_of_lt (two_lt hn32 hn232)]
  · rw [← t2, ek, ← Int.natCast_ediv, Nat.mul_div_cancel _ hk]

end Go.Proofs.YtpagdcobhbkabaaDoor
