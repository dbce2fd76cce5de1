/-
  sounderref00.Bring: a number brought to be from 0 to below n.
-/
import Derived.Test.YtpagdcobhbkabaaDoorKit
namespace Go.Proofs.YtpagdcobhbkabaaDoor
open Go.RowKit Go.Sort

theorem bring_arith (i n : Int) (h0 : 0 < n) : -n < i.tmod n ∧ i.tmod n < n ∧ (i.tmod n < 0 → i.tmod n + n = i % n) ∧ (0 ≤ i.tmod n → i.tmod n = i % n) := by
  have e0 := Int.emod_nonneg i (show n ≠ 0 by omega)
  have e1 := Int.emod_lt_of_pos i h0
  rw [Int.tmod_eq_emod]
  split
  · omega
  · rename_i h
    have hz : i % n ≠ 0 := fun hz => h (.inr (Int.dvd_of_emod_eq_zero hz))
    omega

theorem bring_same (i n : Int) (h0 : 0 < n) (h1 : n ≤ 4611686018427387904) (w : World) :
    Calls Tryd.prog 33 #[.int .i64 i, .int .i64 n] w fun e w' => e = .returned (.int .i64 (i % n)) ∧ w = w' := by
  obtain ⟨b0, b1, b2, b3⟩ := bring_arith i n h0
  have hne : ¬ n = 0 := by omega
  generalize hT : i.tmod n = T at *
  generalize i % n = R at *
  by_cases h : T < 0
  · have e := b2 h
    clear b2 b3
    have hw : wrap64 (T + n) = R := by rw [e]; exact IntWalk.wrap64_in _ ⟨by omega, by omega⟩
    have hw2 : T + n = R := e
    clear e
    go_enter Tryd.func33, Tryd.ntmps33
    go_wp2
    go_ret
    exact ⟨rfl, rfl⟩
  · have e := b3 (by omega)
    subst e
    clear b2 b3
    go_enter Tryd.func33, Tryd.ntmps33
    go_wp2
    go_ret
    exact ⟨rfl, rfl⟩

end Go.Proofs.YtpagdcobhbkabaaDoor
