/-
  Layer 5: which are numbers; Wait, the program's and the document's.
-/
import Derived.Test.YtpagdcobhbkabaaDoorSatC
import Derived.Test.YtpagdcobhbkabaaDoorOctO
import Derived.Test.YtpagdcobhbkabaaDoorFro
namespace Go.Proofs.YtpagdcobhbkabaaDoor
open Go.RowKit Go.Sort

namespace Frm
def wait (d x : Int) : Int := min (1000 * min (d * 2 ^ x.toNat) 9007199254740991) 9007199254740991
def waitOk (d x : Int) : Bool := isN d && decide (0 ≤ x) && decide (x ≤ 20)
theorem sat_mul {a b : Int} (ha : 0 ≤ a) (ha1 : a ≤ 9007199254740991) (hb : 0 ≤ b) (hb1 : b ≤ 9007199254740991) : Sat.mul a b = min (a * b) 9007199254740991 := by
  unfold Sat.mul Sat.quo
  rw [Sat.num_id ha ha1, Sat.num_id hb hb1, Sat.num_id (show (0 : Int) ≤ 1 by decide) (by decide), if_neg (by decide), Int.ediv_one]
theorem pow_one {x : Nat} (h : x ≤ 20) : (1 : Int) ≤ 2 ^ x ∧ (2 : Int) ^ x ≤ 1048576 := by
  constructor
  · have := Int.pow_pos (n := 2) (m := x) (by decide)
    omega
  · have h1 : (2 : Nat) ^ x ≤ 2 ^ 20 := Nat.pow_le_pow_right (by omega) h
    have h2 : ((2 ^ x : Nat) : Int) ≤ ((2 ^ 20 : Nat) : Int) := by exact_mod_cast h1
    simpa using h2
end Frm

theorem isn_any (n : Int) (w : World) : Calls Tryd.prog 39 #[.int .i64 n] w fun e w' => e = .returned (.bool (Frm.isN n)) ∧ w = w' := by
  by_cases h0 : 0 ≤ n
  · by_cases h1 : n ≤ 9007199254740991
    · have e : Frm.isN n = true := (Frm.isN_iff n).2 ⟨h0, h1⟩
      rw [e]
      go_enter Tryd.func39, Tryd.ntmps39
      go_wp2
      go_ret
      exact ⟨rfl, rfl⟩
    · have e : Frm.isN n = false := by
        cases hh : Frm.isN n with
        | false => rfl
        | true => exact absurd ((Frm.isN_iff n).1 hh).2 h1
      rw [e]
      go_enter Tryd.func39, Tryd.ntmps39
      go_wp2
      go_ret
      exact ⟨rfl, rfl⟩
  · have e : Frm.isN n = false := by
      cases hh : Frm.isN n with
      | false => rfl
      | true => exact absurd ((Frm.isN_iff n).1 hh).1 h0
    rw [e]
    go_enter Tryd.func39, Tryd.ntmps39
    go_wp2
    go_ret
    exact ⟨rfl, rfl⟩
theorem risn_any (n : Int) (w : World) : Calls Tryd.prog 40 #[.int .i64 n] w fun e w' => e = .returned (.bool (Frm.isN n)) ∧ w = w' := by
  by_cases h0 : 0 ≤ n
  · by_cases h1 : n ≤ 9007199254740991
    · have e : Frm.isN n = true := (Frm.isN_iff n).2 ⟨h0, h1⟩
      rw [e]
      go_enter Tryd.func40, Tryd.ntmps40
      go_wp2
      go_ret
      exact ⟨rfl, rfl⟩
    · have e : Frm.isN n = false := by
        cases hh : Frm.isN n with
        | false => rfl
        | true => exact absurd ((Frm.isN_iff n).1 hh).2 h1
      rw [e]
      go_enter Tryd.func40, Tryd.ntmps40
      go_wp2
      go_ret
      exact ⟨rfl, rfl⟩
  · have e : Frm.isN n = false := by
      cases hh : Frm.isN n with
      | false => rfl
      | true => exact absurd ((Frm.isN_iff n).1 hh).1 h0
    rw [e]
    go_enter Tryd.func40, Tryd.ntmps40
    go_wp2
    go_ret
    exact ⟨rfl, rfl⟩

theorem rwait_any (d x : Int) (w : World) : Calls Tryd.prog 31 #[.int .i64 d, .int .i64 x] w fun e w' => e = .returned (.tuple #[.int .i64 (if Frm.waitOk d x = true then Frm.wait d x else 0), .int .i64 (if Frm.waitOk d x = true then 0 else 9)]) ∧ w = w' := by
  have hn := risn_any d w
  unfold Frm.waitOk
  cases hi : Frm.isN d with
  | false =>
    rw [hi] at hn
    simp only [Bool.false_and, Bool.false_eq_true, ↓reduceIte]
    go_enter Tryd.func31, Tryd.ntmps31
    go_wp2_with fail
    with_reducible refine hn.mono ?_
    rintro e w1 ⟨rfl, rfl⟩
    go_wp2
    go_ret2
    exact ⟨rfl, rfl⟩
  | true =>
    rw [hi] at hn
    obtain ⟨d0, d1⟩ := (Frm.isN_iff d).1 hi
    by_cases h0 : 0 ≤ x
    · by_cases h1 : x ≤ 20
      · rw [decide_eq_true h0, decide_eq_true h1]
        simp only [Bool.and_self, ↓reduceIte]
        obtain ⟨X, rfl⟩ : ∃ X : Nat, x = X := ⟨x.toNat, by omega⟩
        unfold Frm.wait
        rw [Int.toNat_natCast]
        have hX : X ≤ 20 := by omega
        clear hi
        go_enter Tryd.func31, Tryd.ntmps31
        go_wp2_with fail
        with_reducible refine hn.mono ?_
        rintro e w1 ⟨rfl, rfl⟩
        go_wp2_with fail
        go_loopw [0, 6] (fun y i wr => ∃ (k : Nat) (D : Int), y = .int .i64 D ∧ i = .int .i64 (k : Int) ∧ k ≤ X ∧ D = min (d * 2 ^ k) 9007199254740991 ∧ 0 ≤ D ∧ w = wr) (fun _ i _ => 21 - (intOf i).toNat)
        case atStart => exact ⟨0, d, rfl, rfl, by omega, by simp; omega, d0, rfl⟩
        case round =>
          obtain ⟨k, D, rfl, rfl, hk, hD, hD0, rfl⟩ := hrel
          have hD1 : D ≤ 9007199254740991 := by omega
          by_cases hlt : k < X
          · have hlt' : (k : Int) < (X : Int) := by omega
            have hwi : IntKind.i64.wrap ((k : Int) + 1) = (k : Int) + 1 := IntWalk.i64_in _ (by omega)
            have hw2 : IntKind.i64.wrap (2 * D) = 2 * D := IntWalk.i64_in _ (by omega)
            obtain ⟨E, hE⟩ : ∃ E, min (2 * D) 9007199254740991 = E := ⟨_, rfl⟩
            have hE2 : E = min (d * 2 ^ (k + 1)) 9007199254740991 := by
              rw [Int.pow_succ, ← Int.mul_assoc]
              omega
            have hE0 : 0 ≤ E := by omega
            clear hD hD0 hD1 d0 d1
            replace hE2 := Lib.hid hE2
            replace hE0 := Lib.hid hE0
            go_wp2_with fail
            refine ⟨⟨k + 1, E, rfl, by simp, by omega, hE2.out, hE0.out, trivial⟩, ?_⟩
            simp only [intOf]
            omega
          · have hlt' : ¬ (k : Int) < (X : Int) := by omega
            have hkX : k = X := by omega
            subst hkX
            have hw2 : IntKind.i64.wrap (1000 * D) = 1000 * D := IntWalk.i64_in _ (by omega)
            clear hD0 hD1 d0 d1
            replace hD := Lib.hid hD
            go_wp2
            go_ret2
            exact ⟨by rw [← hD.out]; rfl, rfl⟩
      · rw [decide_eq_false h1]
        simp only [Bool.and_false, Bool.false_eq_true, ↓reduceIte]
        go_enter Tryd.func31, Tryd.ntmps31
        go_wp2_with fail
        with_reducible refine hn.mono ?_
        rintro e w1 ⟨rfl, rfl⟩
        go_wp2
        go_ret2
        exact ⟨rfl, rfl⟩
    · rw [decide_eq_false h0]
      simp only [Bool.and_false, Bool.false_and, Bool.false_eq_true, ↓reduceIte]
      go_enter Tryd.func31, Tryd.ntmps31
      go_wp2_with fail
      with_reducible refine hn.mono ?_
      rintro e w1 ⟨rfl, rfl⟩
      go_wp2
      go_ret2
      exact ⟨rfl, rfl⟩
namespace Frm
theorem wait_double {d : Int} (d0 : 0 ≤ d) (x : Nat) : wait d ((x : Int) + 1) = min (2 * wait d x) 9007199254740991 := by
  unfold wait
  rw [show ((x : Int) + 1).toNat = x + 1 by omega, Int.toNat_natCast, Int.pow_succ, ← Int.mul_assoc]
  have : 0 ≤ d * 2 ^ x := Int.mul_nonneg d0 (Int.le_of_lt (Int.pow_pos (by decide)))
  omega
theorem wait_zero {d : Int} (d0 : 0 ≤ d) (d1 : d ≤ 9007199254740991) : wait d 0 = min (1000 * d) 9007199254740991 := by
  unfold wait
  simp
  omega
end Frm
end Go.Proofs.YtpagdcobhbkabaaDoor
