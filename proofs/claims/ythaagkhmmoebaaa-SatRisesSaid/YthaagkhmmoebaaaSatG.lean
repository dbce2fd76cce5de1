/-
  The laws of layer 1 on how sums rise, and on times.
-/
import Derived.Test.YthaagkhmmoebaaaSatE
namespace Go.Proofs.Ythaagkhmmoebaaa
open Go.RowKit Go.Sort

set_option maxRecDepth 100000 in
theorem satrises_go (a b m0 m1 A B x c x1 a1 : Int) (hA : Sat.num a = A) (hB : Sat.num b = B) (hx : Sat.add A m0 = x) (hc : max 1 (Sat.num m1) = c) (h1 : Sat.add A B ≤ Sat.add x B) (h2 : Sat.mul A B ≤ Sat.mul x B) (h3 : Sat.sub A B ≤ Sat.sub x B) (h4 : Sat.sub B x ≤ Sat.sub B A)
    (h5 : Sat.quo A B c ≤ Sat.quo x B c) (h6 : Sat.up B A c ≤ Sat.up B x c) (hx1 : Sat.add x 1 = x1) (ha1 : Sat.add A 1 = a1) (h7 : Sat.quo B c x1 ≤ Sat.quo B c a1) (w : World) :
    Calls Try.prog 6 #[.int .i64 a, .int .i64 b, .agg #[.int .i64 m0, .int .i64 m1]] w fun e w' => e = .returned (.bool true) ∧ Below w.heap.size w w' := by
  go_enter Try.func6, Try.ntmps6
  go_wp2_with (go_at_call 12; (with_reducible refine (num_same _ _).mono ?_); rintro e w1 ⟨rfl, rfl⟩)
  go_quiet ((first | (go_at_call 12; exact quiet_left (num_same _ _)) | (go_at_call 14; exact quiet_left (add_same _ _ _))))
  go_wp2_with (first | (go_at_call 10; (with_reducible refine (is_any _ _).mono ?_); rintro e w1 ⟨rfl, hb⟩) | (go_at_call 12; (with_reducible refine (num_any _ _).mono ?_); rintro e w1 ⟨rfl, hb⟩) | (go_at_call 14; (with_reducible refine (add_any _ _ _).mono ?_); rintro e w1 ⟨rfl, hb⟩) | (go_at_call 16; (with_reducible refine (sub_any _ _ _).mono ?_); rintro e w1 ⟨rfl, hb⟩) | (go_at_call 18; (with_reducible refine (mul_any _ _ _).mono ?_); rintro e w1 ⟨rfl, hb⟩) | (go_at_call 22; (with_reducible refine (muldiv_any _ _ _ _).mono ?_); rintro e w1 ⟨rfl, hb⟩) | (go_at_call 24; (with_reducible refine (mulup_any _ _ _ _).mono ?_); rintro e w1 ⟨rfl, hb⟩) | (go_at_call 20; (with_reducible refine (mulrest_any _ _ _ _).mono ?_); rintro e w1 ⟨rfl, hb⟩) | (go_at_call 29; (with_reducible refine (istime_any _ _).mono ?_); rintro e w1 ⟨rfl, hb⟩) | (go_at_call 31; (with_reducible refine (earlier_any _ _ _).mono ?_); rintro e w1 ⟨rfl, hb⟩) | (go_at_call 33; (with_reducible refine (later_any _ _ _).mono ?_); rintro e w1 ⟨rfl, hb⟩) | (go_at_call 35; (with_reducible refine (ends_any _ _ _).mono ?_); rintro e w1 ⟨rfl, hb⟩) | (go_at_call 26; (with_reducible refine (works_any _).mono ?_); rintro e w1 ⟨rfl, hb⟩))
  go_ret
  exact ⟨rfl, (by repeat (first | with_reducible assumption | with_reducible exact Below.refl _ _ | with_reducible exact later ‹_› ‹_› | refine later ?_ (by with_reducible assumption) | refine laterA ?_ _ | refine laterDN ?_ _ | refine laterD ?_ | refine laterR ?_ _ _))⟩

theorem satrises_any (a b m0 m1 : Int) (w : World) :
    Calls Try.prog 6 #[.int .i64 a, .int .i64 b, .agg #[.int .i64 m0, .int .i64 m1]] w fun e w' => e = .returned (.bool true) ∧ Below w.heap.size w w' := by
  have a0 := Sat.num_lo a
  have a1 := Sat.num_hi a
  have n0 := Sat.num_lo m0
  have n1 := Sat.num_lo m1
  have n1' := Sat.num_hi m1
  have hx0 := Sat.add_lo (Sat.num a) m0
  have hx1 := Sat.add_hi (Sat.num a) m0
  have le : Sat.num (Sat.num a) ≤ Sat.num (Sat.add (Sat.num a) m0) := by
    rw [Sat.num_num, Sat.num_id hx0 hx1]
    unfold Sat.add Sat.num at *
    omega
  have hc : 0 < Sat.num (max 1 (Sat.num m1)) := by rw [Sat.num_id (by omega) (by omega)]; omega
  have k0 : 0 < Sat.num (Sat.add (Sat.num a) 1) := by
    rw [Sat.num_id (Sat.add_lo _ _) (Sat.add_hi _ _)]
    have : Sat.num 1 = 1 := by decide
    unfold Sat.add; rw [this, Sat.num_num]; unfold Sat.num at *; omega
  have k1 : Sat.num (Sat.add (Sat.num a) 1) ≤ Sat.num (Sat.add (Sat.add (Sat.num a) m0) 1) := by
    rw [Sat.num_id (Sat.add_lo _ _) (Sat.add_hi _ _), Sat.num_id (Sat.add_lo _ _) (Sat.add_hi _ _)]
    exact Sat.add_mono 1 le
  refine satrises_go a b m0 m1 _ _ _ _ _ _ rfl rfl rfl rfl (Sat.add_mono _ le) (Sat.quo_mono _ _ le) (Sat.sub_mono _ le) (Sat.sub_anti _ le) (Sat.quo_mono _ _ le) (Sat.up_mono _ _ hc le) rfl rfl (Sat.quo_anti _ _ k0 k1) w

set_option maxRecDepth 100000 in
set_option maxHeartbeats 4000000 in
theorem sattimes_go (a b A B x y d0 d1 F T M s : Int) (hia : Sat.isT a = true ∧ A = a ∨ Sat.isT a = false ∧ A = -1) (hib : Sat.isT b = true ∧ B = b ∨ Sat.isT b = false ∧ B = -1)
    (hx : Sat.earlier A B = x) (hy : Sat.later A B = y) (hF : Sat.ends x d0 = F) (hT : Sat.ends y d0 = T) (hs : Sat.add d0 d1 = s) (hM : Sat.ends x s = M)
    (h1 : Sat.earlier F T = F) (h2 : Sat.earlier F M = F) (h3 : Sat.earlier x F = x) (h4 : (F == -1) = (x == -1))
    (hc : x = A ∧ y = B ∨ A ≠ B ∧ x = B ∧ y = A) (ne : x = -1 → y = -1) (le : y = -1 ∨ x ≤ y) (w : World) :
    Calls Try.prog 8 #[.int .i64 a, .int .i64 b, .agg #[.int .i64 d0, .int .i64 d1]] w fun e w' => e = .returned (.bool true) ∧ Below w.heap.size w w' := by
  have hk : ((x == -1) = true ∧ (y != -1) = false) ∨ ((x == -1) = false ∧ (y != -1) = true ∧ ¬ y < x) ∨ ((x == -1) = false ∧ (y != -1) = false) := by
    by_cases e1 : x = -1
    · exact .inl ⟨by simp [e1], by simp [ne e1]⟩
    · by_cases e2 : y = -1
      · exact .inr (.inr ⟨by simp [e1], by simp [e2]⟩)
      · exact .inr (.inl ⟨by simp [e1], by simp [e2], by omega⟩)
  clear ne le
  have hd : x = A ∧ y = B ∨ (B == A) = false ∧ x = B ∧ y = A := by
    rcases hc with h | ⟨h, h'⟩
    · exact .inl h
    · exact .inr ⟨by simp; omega, h'⟩
  clear hc
  obtain ⟨rfl, rfl⟩ | ⟨kd, rfl, rfl⟩ := hd <;> obtain ⟨ia, rfl⟩ | ⟨ia, rfl⟩ := hia <;> obtain ⟨ib, rfl⟩ | ⟨ib, rfl⟩ := hib <;> obtain ⟨k1, k2⟩ | ⟨k1, k2, k3⟩ | ⟨k1, k2⟩ := hk
  all_goals first
    | exact absurd k1 (by decide)
    | exact absurd k2 (by decide)
    | skip
  all_goals
    go_enter Try.func8, Try.ntmps8
    go_wp2_with (first | (go_at_call 29; (with_reducible refine (istime_same _ _).mono ?_); rintro e w1 ⟨rfl, rfl⟩) | (go_at_call 31; (with_reducible refine (earlier_same _ _ _).mono ?_); rintro e w1 ⟨rfl, rfl⟩) | (go_at_call 33; (with_reducible refine (later_same _ _ _).mono ?_); rintro e w1 ⟨rfl, rfl⟩) | (go_at_call 35; (with_reducible refine (ends_same _ _ _).mono ?_); rintro e w1 ⟨rfl, rfl⟩) | (go_at_call 14; (with_reducible refine (add_same _ _ _).mono ?_); rintro e w1 ⟨rfl, rfl⟩) | (go_at_call 26; (with_reducible refine (works_any _).mono ?_); rintro e w1 ⟨rfl, hb⟩))
    go_quiet ((go_at_call 35; exact quiet_left (ends_same _ _ _)))
    go_wp2_with (first | (go_at_call 31; (with_reducible refine (earlier_same _ _ _).mono ?_); rintro e w1 ⟨rfl, rfl⟩) | (go_at_call 35; (with_reducible refine (ends_same _ _ _).mono ?_); rintro e w1 ⟨rfl, rfl⟩) | (go_at_call 14; (with_reducible refine (add_same _ _ _).mono ?_); rintro e w1 ⟨rfl, rfl⟩) | (go_at_call 26; (with_reducible refine (works_any _).mono ?_); rintro e w1 ⟨rfl, hb⟩))
    all_goals (go_ret; first | exact ⟨rfl, (by repeat (first | with_reducible assumption | with_reducible exact Below.refl _ _ | with_reducible exact later ‹_› ‹_› | refine later ?_ (by with_reducible assumption) | refine laterA ?_ _ | refine laterDN ?_ _ | refine laterD ?_ | refine laterR ?_ _ _))⟩ | (refine ⟨rb ?_, (by repeat (first | with_reducible assumption | with_reducible exact Below.refl _ _ | with_reducible exact later ‹_› ‹_› | refine later ?_ (by with_reducible assumption) | refine laterA ?_ _ | refine laterDN ?_ _ | refine laterD ?_ | refine laterR ?_ _ _))⟩; simp_all))

theorem sattimes_any (a b d0 d1 : Int) (w : World) :
    Calls Try.prog 8 #[.int .i64 a, .int .i64 b, .agg #[.int .i64 d0, .int .i64 d1]] w fun e w' => e = .returned (.bool true) ∧ Below w.heap.size w w' := by
  have key : ∀ t : Int, ∃ T, (Sat.isT t = true ∧ T = t ∨ Sat.isT t = false ∧ T = -1) ∧ Sat.isT T = true := by
    intro t
    cases h : Sat.isT t
    · exact ⟨-1, .inr ⟨rfl, rfl⟩, Sat.isT_neg⟩
    · exact ⟨t, .inl ⟨rfl, rfl⟩, h⟩
  obtain ⟨A, hA, tA⟩ := key a
  obtain ⟨B, hB, tB⟩ := key b
  obtain ⟨h1, h2, h3, h4, h5, h6, h7⟩ := Sat.times A B d0 d1 tA tB
  exact sattimes_go a b A B _ _ d0 d1 _ _ _ _ hA hB rfl rfl rfl rfl rfl rfl h4 h5 h6 h7 h1 h2 h3 w

end Go.Proofs.Ythaagkhmmoebaaa
