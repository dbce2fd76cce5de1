/-
  The laws of layer 1 that do not use the document's answer.
-/
import Derived.Test.YthaagkhmmoebaaaSatW
import Derived.Test.YthaagkhmmoebaaaSatP
namespace Go.Proofs.Ythaagkhmmoebaaa
open Go.RowKit Go.Sort

set_option maxRecDepth 100000 in
theorem satsums_any (a b c : Int) (w : World) :
    Calls Try.prog 5 #[.int .i64 a, .int .i64 b, .int .i64 c] w fun e w' => e = .returned (.bool true) ∧ Below w.heap.size w w' := by
  have k1 : (Sat.add a b != Sat.add b a) = false := by rw [Sat.add_comm]; simp
  have k2 : (Sat.mul a b != Sat.mul b a) = false := by rw [Sat.mul_comm]; simp
  have k3 : (Sat.add (Sat.add a b) c != Sat.add a (Sat.add b c)) = false := by rw [Sat.add_assoc]; simp
  have k4 : (Sat.mul (Sat.mul a b) c != Sat.mul a (Sat.mul b c)) = false := by rw [Sat.mul_assoc]; simp
  have k5 : (Sat.sub a a == 0) = true := by rw [Sat.sub_self]; rfl
  have k6 : (Sat.mul a 1 == Sat.num a) = true := by rw [Sat.mul_1]; simp
  have k7 : (Sat.mul a 0 == 0) = true := by rw [Sat.mul_0]; rfl
  have k8 : (Sat.add a 0 == Sat.num a) = true := by rw [Sat.add_0]; simp
  by_cases h : Sat.add a b = 9007199254740991
  · have k9 : (Sat.add a b == 9007199254740991) = true := by rw [h]; rfl
    clear h
    go_enter Try.func5, Try.ntmps5
    go_wp2_with (first | (go_at_call 10; (with_reducible refine (is_any _ _).mono ?_); rintro e w1 ⟨rfl, hb⟩) | (go_at_call 12; (with_reducible refine (num_any _ _).mono ?_); rintro e w1 ⟨rfl, hb⟩) | (go_at_call 14; (with_reducible refine (add_any _ _ _).mono ?_); rintro e w1 ⟨rfl, hb⟩) | (go_at_call 16; (with_reducible refine (sub_any _ _ _).mono ?_); rintro e w1 ⟨rfl, hb⟩) | (go_at_call 18; (with_reducible refine (mul_any _ _ _).mono ?_); rintro e w1 ⟨rfl, hb⟩) | (go_at_call 22; (with_reducible refine (muldiv_any _ _ _ _).mono ?_); rintro e w1 ⟨rfl, hb⟩) | (go_at_call 24; (with_reducible refine (mulup_any _ _ _ _).mono ?_); rintro e w1 ⟨rfl, hb⟩) | (go_at_call 20; (with_reducible refine (mulrest_any _ _ _ _).mono ?_); rintro e w1 ⟨rfl, hb⟩) | (go_at_call 29; (with_reducible refine (istime_any _ _).mono ?_); rintro e w1 ⟨rfl, hb⟩) | (go_at_call 31; (with_reducible refine (earlier_any _ _ _).mono ?_); rintro e w1 ⟨rfl, hb⟩) | (go_at_call 33; (with_reducible refine (later_any _ _ _).mono ?_); rintro e w1 ⟨rfl, hb⟩) | (go_at_call 35; (with_reducible refine (ends_any _ _ _).mono ?_); rintro e w1 ⟨rfl, hb⟩) | (go_at_call 26; (with_reducible refine (works_any _).mono ?_); rintro e w1 ⟨rfl, hb⟩))
    go_ret
    exact ⟨rfl, (by repeat (first | with_reducible assumption | with_reducible exact Below.refl _ _ | with_reducible exact later ‹_› ‹_› | refine later ?_ (by with_reducible assumption) | refine laterA ?_ _ | refine laterDN ?_ _ | refine laterD ?_ | refine laterR ?_ _ _))⟩
  · have k9 : (Sat.add a b == 9007199254740991) = false := by simpa using h
    have k10 : (Sat.sub (Sat.add a b) b == Sat.num a) = true := by rw [Sat.sub_add a b h]; simp
    clear h
    go_enter Try.func5, Try.ntmps5
    go_wp2_with (first | (go_at_call 10; (with_reducible refine (is_any _ _).mono ?_); rintro e w1 ⟨rfl, hb⟩) | (go_at_call 12; (with_reducible refine (num_any _ _).mono ?_); rintro e w1 ⟨rfl, hb⟩) | (go_at_call 14; (with_reducible refine (add_any _ _ _).mono ?_); rintro e w1 ⟨rfl, hb⟩) | (go_at_call 16; (with_reducible refine (sub_any _ _ _).mono ?_); rintro e w1 ⟨rfl, hb⟩) | (go_at_call 18; (with_reducible refine (mul_any _ _ _).mono ?_); rintro e w1 ⟨rfl, hb⟩) | (go_at_call 22; (with_reducible refine (muldiv_any _ _ _ _).mono ?_); rintro e w1 ⟨rfl, hb⟩) | (go_at_call 24; (with_reducible refine (mulup_any _ _ _ _).mono ?_); rintro e w1 ⟨rfl, hb⟩) | (go_at_call 20; (with_reducible refine (mulrest_any _ _ _ _).mono ?_); rintro e w1 ⟨rfl, hb⟩) | (go_at_call 29; (with_reducible refine (istime_any _ _).mono ?_); rintro e w1 ⟨rfl, hb⟩) | (go_at_call 31; (with_reducible refine (earlier_any _ _ _).mono ?_); rintro e w1 ⟨rfl, hb⟩) | (go_at_call 33; (with_reducible refine (later_any _ _ _).mono ?_); rintro e w1 ⟨rfl, hb⟩) | (go_at_call 35; (with_reducible refine (ends_any _ _ _).mono ?_); rintro e w1 ⟨rfl, hb⟩) | (go_at_call 26; (with_reducible refine (works_any _).mono ?_); rintro e w1 ⟨rfl, hb⟩))
    go_ret
    exact ⟨rfl, (by repeat (first | with_reducible assumption | with_reducible exact Below.refl _ _ | with_reducible exact later ‹_› ‹_› | refine later ?_ (by with_reducible assumption) | refine laterA ?_ _ | refine laterDN ?_ _ | refine laterD ?_ | refine laterR ?_ _ _))⟩

set_option maxRecDepth 100000 in
theorem limbs_go (a b P Q R S : Int) (w : World) (a0 : 0 ≤ a) (a1 : a ≤ 9007199254740992) (b0 : 0 ≤ b) (b1 : b ≤ 9007199254740992)
    (h1 : wrap64 (a % 134217728 * (b % 134217728)) = P) (h2 : wrap64 (a % 134217728 * (b / 134217728)) = Q) (h3 : wrap64 (a / 134217728 * (b % 134217728)) = R) (h4 : wrap64 (a / 134217728 * (b / 134217728)) = S)
    (p0 : 0 ≤ P) (p1 : P ≤ 18014398509481984) (q0 : 0 ≤ Q) (q1 : Q ≤ 18014398509481984) (r0 : 0 ≤ R) (r1 : R ≤ 18014398509481984) (s0 : 0 ≤ S) (s1 : S ≤ 18014398509481984) :
    Calls Try.prog 27 #[.int .i64 a, .int .i64 b] w fun e w' => e = .returned (.agg #[.int .i64 (P % 134217728), .int .i64 ((Q + R + P / 134217728) % 134217728), .int .i64 ((S + (Q + R + P / 134217728) / 134217728) % 134217728), .int .i64 ((S + (Q + R + P / 134217728) / 134217728) / 134217728)]) ∧ Below w.heap.size w w' := by
  go_enter Try.func27, Try.ntmps27
  go_wp2
  refine bodyPost_ret (v := .agg #[.int .i64 (P % 134217728), .int .i64 ((Q + R + P / 134217728) % 134217728), .int .i64 ((S + (Q + R + P / 134217728) / 134217728) % 134217728), .int .i64 ((S + (Q + R + P / 134217728) / 134217728) / 134217728)]) (by simp [results, Try.results27, go_sem]) rfl ⟨rfl, (by repeat (first | with_reducible assumption | with_reducible exact Below.refl _ _ | with_reducible exact later ‹_› ‹_› | refine later ?_ (by with_reducible assumption) | refine laterA ?_ _ | refine laterDN ?_ _ | refine laterD ?_ | refine laterR ?_ _ _))⟩

theorem part_le {x y : Int} (x0 : 0 ≤ x) (x1 : x ≤ 134217728) (y0 : 0 ≤ y) (y1 : y ≤ 134217728) : wrap64 (x * y) = x * y ∧ 0 ≤ x * y ∧ x * y ≤ 18014398509481984 := by
  have h0 := Int.mul_nonneg x0 y0
  have h1 := Int.mul_le_mul x1 y1 y0 (by omega)
  refine ⟨IntWalk.wrap64_in _ ⟨by omega, by omega⟩, h0, by omega⟩

theorem limbs_any (a b : Int) (a0 : 0 ≤ a) (a1 : a ≤ 9007199254740992) (b0 : 0 ≤ b) (b1 : b ≤ 9007199254740992) (w : World) :
    Calls Try.prog 27 #[.int .i64 a, .int .i64 b] w fun e w' => e = .returned (.agg #[.int .i64 (Sat.l0 a b), .int .i64 (Sat.l1 a b), .int .i64 (Sat.l2 a b), .int .i64 (Sat.l3 a b)]) ∧ Below w.heap.size w w' := by
  obtain ⟨e1, e2, e3⟩ := part_le (x := a % 134217728) (y := b % 134217728) (by omega) (by omega) (by omega) (by omega)
  obtain ⟨f1, f2, f3⟩ := part_le (x := a % 134217728) (y := b / 134217728) (by omega) (by omega) (by omega) (by omega)
  obtain ⟨g1, g2, g3⟩ := part_le (x := a / 134217728) (y := b % 134217728) (by omega) (by omega) (by omega) (by omega)
  obtain ⟨k1, k2, k3⟩ := part_le (x := a / 134217728) (y := b / 134217728) (by omega) (by omega) (by omega) (by omega)
  exact limbs_go a b _ _ _ _ w a0 a1 b0 b1 e1 f1 g1 k1 e2 e3 f2 f3 g2 g3 k2 k3

set_option maxRecDepth 100000 in
theorem less_any (a0 a1 a2 a3 b0 b1 b2 b3 : Int) (w : World)  :
    Calls Try.prog 28 #[.agg #[.int .i64 a0, .int .i64 a1, .int .i64 a2, .int .i64 a3], .agg #[.int .i64 b0, .int .i64 b1, .int .i64 b2, .int .i64 b3]] w fun e w' => e = .returned (.bool (Sat.lessB a0 a1 a2 a3 b0 b1 b2 b3)) ∧ Below w.heap.size w w' := by
  by_cases h3 : a3 = b3
  · have k3 : (a3 != b3) = false := by simp [h3]
    by_cases h2 : a2 = b2
    · have k2 : (a2 != b2) = false := by simp [h2]
      by_cases h1 : a1 = b1
      · have k1 : (a1 != b1) = false := by simp [h1]
        by_cases h0 : a0 = b0
        · have k0 : (a0 != b0) = false := by simp [h0]
          have e : Sat.lessB a0 a1 a2 a3 b0 b1 b2 b3 = false := by simp [Sat.lessB, h3, h2, h1, h0]
          rw [e]
          clear h3 h2 h1 h0 e
          go_enter Try.func28, Try.ntmps28
          go_wp2
          refine wp_loop_rounds 5 ?_
          rw [rounds_succ]
          go_wp2
          go_quiet (fail)
          go_wp2
          rw [rounds_succ]
          go_wp2
          go_quiet (fail)
          go_wp2
          rw [rounds_succ]
          go_wp2
          go_quiet (fail)
          go_wp2
          rw [rounds_succ]
          go_wp2
          go_quiet (fail)
          go_wp2
          rw [rounds_succ]
          go_wp2
          go_ret
          exact ⟨rfl, (by repeat (first | with_reducible assumption | with_reducible exact Below.refl _ _ | with_reducible exact later ‹_› ‹_› | refine later ?_ (by with_reducible assumption) | refine laterA ?_ _ | refine laterDN ?_ _ | refine laterD ?_ | refine laterR ?_ _ _))⟩
        · have k0 : (a0 != b0) = true := by simp [h0]
          have e : Sat.lessB a0 a1 a2 a3 b0 b1 b2 b3 = decide (a0 < b0) := by simp [Sat.lessB, h3, h2, h1]
          rw [e]
          clear e h3 h2 h1 h0
          go_enter Try.func28, Try.ntmps28
          go_wp2
          refine wp_loop_rounds 5 ?_
          rw [rounds_succ]
          go_wp2
          go_quiet (fail)
          go_wp2
          rw [rounds_succ]
          go_wp2
          go_quiet (fail)
          go_wp2
          rw [rounds_succ]
          go_wp2
          go_quiet (fail)
          go_wp2
          rw [rounds_succ]
          go_wp2
          go_quiet (fail)
          go_wp2
          go_quiet (fail)
          go_wp2
          go_ret
          exact ⟨rfl, (by repeat (first | with_reducible assumption | with_reducible exact Below.refl _ _ | with_reducible exact later ‹_› ‹_› | refine later ?_ (by with_reducible assumption) | refine laterA ?_ _ | refine laterDN ?_ _ | refine laterD ?_ | refine laterR ?_ _ _))⟩
      · have k1 : (a1 != b1) = true := by simp [h1]
        have e : Sat.lessB a0 a1 a2 a3 b0 b1 b2 b3 = decide (a1 < b1) := by simp [Sat.lessB, h3, h2, h1]
        rw [e]
        clear e h3 h2 h1
        go_enter Try.func28, Try.ntmps28
        go_wp2
        refine wp_loop_rounds 5 ?_
        rw [rounds_succ]
        go_wp2
        go_quiet (fail)
        go_wp2
        rw [rounds_succ]
        go_wp2
        go_quiet (fail)
        go_wp2
        rw [rounds_succ]
        go_wp2
        go_quiet (fail)
        go_wp2
        go_quiet (fail)
        go_wp2
        go_ret
        exact ⟨rfl, (by repeat (first | with_reducible assumption | with_reducible exact Below.refl _ _ | with_reducible exact later ‹_› ‹_› | refine later ?_ (by with_reducible assumption) | refine laterA ?_ _ | refine laterDN ?_ _ | refine laterD ?_ | refine laterR ?_ _ _))⟩
    · have k2 : (a2 != b2) = true := by simp [h2]
      have e : Sat.lessB a0 a1 a2 a3 b0 b1 b2 b3 = decide (a2 < b2) := by simp [Sat.lessB, h3, h2]
      rw [e]
      clear e h3 h2
      go_enter Try.func28, Try.ntmps28
      go_wp2
      refine wp_loop_rounds 5 ?_
      rw [rounds_succ]
      go_wp2
      go_quiet (fail)
      go_wp2
      rw [rounds_succ]
      go_wp2
      go_quiet (fail)
      go_wp2
      go_quiet (fail)
      go_wp2
      go_ret
      exact ⟨rfl, (by repeat (first | with_reducible assumption | with_reducible exact Below.refl _ _ | with_reducible exact later ‹_› ‹_› | refine later ?_ (by with_reducible assumption) | refine laterA ?_ _ | refine laterDN ?_ _ | refine laterD ?_ | refine laterR ?_ _ _))⟩
  · have k3 : (a3 != b3) = true := by simp [h3]
    have e : Sat.lessB a0 a1 a2 a3 b0 b1 b2 b3 = decide (a3 < b3) := by simp [Sat.lessB, h3]
    rw [e]
    clear e h3
    go_enter Try.func28, Try.ntmps28
    go_wp2
    refine wp_loop_rounds 5 ?_
    rw [rounds_succ]
    go_wp2
    go_quiet (fail)
    go_wp2
    go_quiet (fail)
    go_wp2
    go_ret
    exact ⟨rfl, (by repeat (first | with_reducible assumption | with_reducible exact Below.refl _ _ | with_reducible exact later ‹_› ‹_› | refine later ?_ (by with_reducible assumption) | refine laterA ?_ _ | refine laterDN ?_ _ | refine laterD ?_ | refine laterR ?_ _ _))⟩

end Go.Proofs.Ythaagkhmmoebaaa
