/-
  The law of exact quotients.
-/
import Derived.Test.YthaagkhmmoebaaaSatE
namespace Go.Proofs.Ythaagkhmmoebaaa
open Go.RowKit Go.Sort

theorem eq_arr4 (x0 x1 x2 x3 y0 y1 y2 y3 : Int) (d : Nat) (w : World) : (Op.equalIn (d + 2) 30 (.agg #[.int .i64 x0, .int .i64 x1, .int .i64 x2, .int .i64 x3]) (.agg #[.int .i64 y0, .int .i64 y1, .int .i64 y2, .int .i64 y3])).run Try.prog w = .ok (x0 == y0 && (x1 == y1 && (x2 == y2 && x3 == y3))) w := by
  have e3 : ∀ (a b : Int) (w : World), (Op.equalIn (d + 1) 3 (.int .i64 a) (.int .i64 b)).run Try.prog w = .ok (a == b) w := fun a b w => run_equalIn_int w d 3 .i64 .i64 a b Try.underlying3
  have hs : ∀ w, (sizeOf 3).run Try.prog w = .ok 1 w := Try.sizeOf3
  have ha : ∀ w, (isAgg 3).run Try.prog w = .ok false w := Try.isAgg3
  rw [Op.equalIn]
  simp only [Sem.run_bind, run_underlying Try.underlying30, Result.andThen_ok]
  have hr : List.range' 0 4 = [0, 1, 2, 3] := rfl
  simp [go_sem, hs, e3, hr, ha]
  cases h0 : (x0 == y0) <;> cases h1 : (x1 == y1) <;> cases h2 : (x2 == y2) <;> cases h3 : (x3 == y3) <;> simp_all

set_option maxRecDepth 100000 in
theorem satexact_go (a b c A B C q u : Int) (x0 x1 x2 x3 y0 y1 y2 y3 z0 z1 z2 z3 : Int) (same : Bool) (w : World) (hA : max 0 (min a 9007199254740991) = A) (hB : max 0 (min b 9007199254740991) = B) (hC : max 1 (min c 9007199254740991) = C)
    (q0 : 0 ≤ q) (q1 : q ≤ 9007199254740991)
    (HQ : Hid (∀ w, Calls Try.prog 22 #[.int .i64 A, .int .i64 B, .int .i64 C] w fun e w' => e = .returned (.int .i64 q) ∧ Below w.heap.size w w'))
    (HU : Hid (∀ w, Calls Try.prog 24 #[.int .i64 A, .int .i64 B, .int .i64 C] w fun e w' => e = .returned (.int .i64 u) ∧ Below w.heap.size w w'))
    (HX : Hid (∀ w, Calls Try.prog 27 #[.int .i64 A, .int .i64 B] w fun e w' => e = .returned (.agg #[.int .i64 x0, .int .i64 x1, .int .i64 x2, .int .i64 x3]) ∧ Below w.heap.size w w')) (HY : Hid (∀ w, Calls Try.prog 27 #[.int .i64 q, .int .i64 C] w fun e w' => e = .returned (.agg #[.int .i64 y0, .int .i64 y1, .int .i64 y2, .int .i64 y3]) ∧ Below w.heap.size w w')) (HL : Hid (∀ w, Calls Try.prog 28 #[.agg #[.int .i64 x0, .int .i64 x1, .int .i64 x2, .int .i64 x3], .agg #[.int .i64 y0, .int .i64 y1, .int .i64 y2, .int .i64 y3]] w fun e w' => e = .returned (.bool false) ∧ Below w.heap.size w w'))
    (HZ : Hid (∀ w, Calls Try.prog 27 #[.int .i64 (q + 1), .int .i64 C] w fun e w' => e = .returned (.agg #[.int .i64 z0, .int .i64 z1, .int .i64 z2, .int .i64 z3]) ∧ Below w.heap.size w w')) (HM : Hid (q < 9007199254740991 → ∀ w, Calls Try.prog 28 #[.agg #[.int .i64 x0, .int .i64 x1, .int .i64 x2, .int .i64 x3], .agg #[.int .i64 z0, .int .i64 z1, .int .i64 z2, .int .i64 z3]] w fun e w' => e = .returned (.bool true) ∧ Below w.heap.size w w'))
    (HE : Hid (same = true ↔ (x0 = y0 ∧ x1 = y1 ∧ x2 = y2 ∧ x3 = y3))) (HR : Hid (u = if q = 9007199254740991 then 9007199254740991 else if same then q else q + 1)) :
    Calls Try.prog 4 #[.int .i64 a, .int .i64 b, .int .i64 c] w fun e w' => e = .returned (.bool true) ∧ Below w.heap.size w w' := by
  by_cases hq : q = 9007199254740991
  · subst hq
    have k1 : (u == 9007199254740991) = true := by rw [HR.out]; rfl
    go_enter Try.func4, Try.ntmps4
    go_wp2_with fail
    refine (works_any _).mono ?_
    rintro e wa ⟨rfl, ha⟩
    go_wp2_with fail
    refine (HQ.out _).mono ?_
    rintro e wb ⟨rfl, hb⟩
    go_wp2_with fail
    refine (HU.out _).mono ?_
    rintro e wc ⟨rfl, hc⟩
    go_wp2_with fail
    refine (HX.out _).mono ?_
    rintro e wd ⟨rfl, hd⟩
    go_wp2_with fail
    refine (HY.out _).mono ?_
    rintro e we ⟨rfl, he⟩
    go_wp2_with fail
    refine (HL.out _).mono ?_
    rintro e wf ⟨rfl, hf⟩
    go_wp2_with fail
    go_ret
    exact ⟨rb (by first | rfl | simpa using k1), (by repeat (first | with_reducible assumption | with_reducible exact Below.refl _ _ | with_reducible exact later ‹_› ‹_› | refine later ?_ (by with_reducible assumption) | refine laterA ?_ _ | refine laterDN ?_ _ | refine laterD ?_ | refine laterR ?_ _ _))⟩
  · have k1 : (q == 9007199254740991) = false := by simp [hq]
    have HM' := Lib.hid (HM.out (by omega))
    have hr := HR.out
    rw [if_neg hq] at hr
    cases same
    · have k2 : (u == q + 1) = true := by rw [hr]; simp
      have hne : ¬ (x0 = y0 ∧ x1 = y1 ∧ x2 = y2 ∧ x3 = y3) := fun h => Bool.noConfusion (HE.out.2 h)
      have k3 : (x0 == y0 && (x1 == y1 && (x2 == y2 && x3 == y3))) = false := by
        rw [Bool.eq_false_iff]; intro h; simp at h; exact hne h
      clear hq hr hne
      go_enter Try.func4, Try.ntmps4
      go_wp2_with fail
      refine (works_any _).mono ?_
      rintro e wa ⟨rfl, ha⟩
      go_wp2_with fail
      refine (HQ.out _).mono ?_
      rintro e wb ⟨rfl, hb⟩
      go_wp2_with fail
      refine (HU.out _).mono ?_
      rintro e wc ⟨rfl, hc⟩
      go_wp2_with fail
      refine (HX.out _).mono ?_
      rintro e wd ⟨rfl, hd⟩
      go_wp2_with fail
      refine (HY.out _).mono ?_
      rintro e we ⟨rfl, he⟩
      go_wp2_with fail
      refine (HL.out _).mono ?_
      rintro e wf ⟨rfl, hf⟩
      go_wp2_with fail
      have bX := ((Blk.new we 30 #[.int .i64 x0, .int .i64 x1, .int .i64 x2, .int .i64 x3]).alloc (.cells #[.int .i64 y0, .int .i64 y1, .int .i64 y2, .int .i64 y3] 30)).later hf
      have bY := (Blk.new2 we (.cells #[.int .i64 x0, .int .i64 x1, .int .i64 x2, .int .i64 x3] 30) 30 #[.int .i64 y0, .int .i64 y1, .int .i64 y2, .int .i64 y3]).later hf
      have HbX := Lib.hid bX
      have HbY := Lib.hid bY
      have c0 := fun d os => (bX.grow d os).cell 0
      have c1 := fun d os => (bX.grow d os).cell 1
      have c2 := fun d os => (bX.grow d os).cell 2
      have c3 := fun d os => (bX.grow d os).cell 3
      simp at c0 c1 c2 c3
      clear bX bY
      refine wp_region_quiet_below (by kernel_rfl) (by kernel_rfl) ?_
      repeat (go_big_quiet_step ((first | (go_at_call 27; with_reducible exact Calls.regrown_of (HZ.out _)) | (go_at_call 28; with_reducible exact Calls.regrown_of (HM'.out _)))))
      refine wpQuiet_nil ?_
      intro wq hw'
      obtain ⟨⟨dq, osq⟩, hw''⟩ := hw'
      have hbq := regrown_below hw''
      clear hw'' dq osq
      clear c0 c1 c2 c3
      have c0 := (HbX.out.later hbq).cell 0
      have c1 := (HbX.out.later hbq).cell 1
      have c2 := (HbX.out.later hbq).cell 2
      have c3 := (HbX.out.later hbq).cell 3
      have d0 := (HbY.out.later hbq).cell 0
      have d1 := (HbY.out.later hbq).cell 1
      have d2 := (HbY.out.later hbq).cell 2
      have d3 := (HbY.out.later hbq).cell 3
      simp at c0 c1 c2 c3 d0 d1 d2 d3
      have eqA : ∀ w, (Op.equalIn 10000 30 (.agg #[.int .i64 x0, .int .i64 x1, .int .i64 x2, .int .i64 x3]) (.agg #[.int .i64 y0, .int .i64 y1, .int .i64 y2, .int .i64 y3])).run Try.prog w = .ok false w := fun w => (eq_arr4 _ _ _ _ _ _ _ _ 9998 w).trans (by rw [k3])
      go_wp2_with fail
      go_ret
      exact ⟨rb (by first | rfl | simpa using k2), (by repeat (first | with_reducible assumption | with_reducible exact Below.refl _ _ | with_reducible exact later ‹_› ‹_› | refine later ?_ (by with_reducible assumption) | refine laterA ?_ _ | refine laterDN ?_ _ | refine laterD ?_ | refine laterR ?_ _ _))⟩
    · have k2 : (u == q) = true := by rw [hr]; simp
      obtain ⟨rfl, rfl, rfl, rfl⟩ := HE.out.1 rfl
      clear hq hr
      go_enter Try.func4, Try.ntmps4
      go_wp2_with fail
      refine (works_any _).mono ?_
      rintro e wa ⟨rfl, ha⟩
      go_wp2_with fail
      refine (HQ.out _).mono ?_
      rintro e wb ⟨rfl, hb⟩
      go_wp2_with fail
      refine (HU.out _).mono ?_
      rintro e wc ⟨rfl, hc⟩
      go_wp2_with fail
      refine (HX.out _).mono ?_
      rintro e wd ⟨rfl, hd⟩
      go_wp2_with fail
      refine (HY.out _).mono ?_
      rintro e we ⟨rfl, he⟩
      go_wp2_with fail
      refine (HL.out _).mono ?_
      rintro e wf ⟨rfl, hf⟩
      go_wp2_with fail
      have bX := ((Blk.new we 30 #[.int .i64 x0, .int .i64 x1, .int .i64 x2, .int .i64 x3]).alloc (.cells #[.int .i64 x0, .int .i64 x1, .int .i64 x2, .int .i64 x3] 30)).later hf
      have bY := (Blk.new2 we (.cells #[.int .i64 x0, .int .i64 x1, .int .i64 x2, .int .i64 x3] 30) 30 #[.int .i64 x0, .int .i64 x1, .int .i64 x2, .int .i64 x3]).later hf
      have HbX := Lib.hid bX
      have HbY := Lib.hid bY
      have c0 := fun d os => (bX.grow d os).cell 0
      have c1 := fun d os => (bX.grow d os).cell 1
      have c2 := fun d os => (bX.grow d os).cell 2
      have c3 := fun d os => (bX.grow d os).cell 3
      simp at c0 c1 c2 c3
      clear bX bY
      refine wp_region_quiet_below (by kernel_rfl) (by kernel_rfl) ?_
      repeat (go_big_quiet_step ((first | (go_at_call 27; with_reducible exact Calls.regrown_of (HZ.out _)) | (go_at_call 28; with_reducible exact Calls.regrown_of (HM'.out _)))))
      refine wpQuiet_nil ?_
      intro wq hw'
      obtain ⟨⟨dq, osq⟩, hw''⟩ := hw'
      have hbq := regrown_below hw''
      clear hw'' dq osq
      clear c0 c1 c2 c3
      have c0 := (HbX.out.later hbq).cell 0
      have c1 := (HbX.out.later hbq).cell 1
      have c2 := (HbX.out.later hbq).cell 2
      have c3 := (HbX.out.later hbq).cell 3
      have d0 := (HbY.out.later hbq).cell 0
      have d1 := (HbY.out.later hbq).cell 1
      have d2 := (HbY.out.later hbq).cell 2
      have d3 := (HbY.out.later hbq).cell 3
      simp at c0 c1 c2 c3 d0 d1 d2 d3
      have eqA : ∀ w, (Op.equalIn 10000 30 (.agg #[.int .i64 x0, .int .i64 x1, .int .i64 x2, .int .i64 x3]) (.agg #[.int .i64 x0, .int .i64 x1, .int .i64 x2, .int .i64 x3])).run Try.prog w = .ok true w := fun w => (eq_arr4 _ _ _ _ _ _ _ _ 9998 w).trans (by simp)
      go_wp2_with fail
      go_ret
      exact ⟨rb (by first | rfl | simpa using k2), (by repeat (first | with_reducible assumption | with_reducible exact Below.refl _ _ | with_reducible exact later ‹_› ‹_› | refine later ?_ (by with_reducible assumption) | refine laterA ?_ _ | refine laterDN ?_ _ | refine laterD ?_ | refine laterR ?_ _ _))⟩

theorem up_exact {A B C : Int} (a0 : 0 ≤ A) (a1 : A ≤ 9007199254740991) (b0 : 0 ≤ B) (b1 : B ≤ 9007199254740991) (c0 : 1 ≤ C) (c1 : C ≤ 9007199254740991) :
    ¬ A * B < Sat.quo A B C * C ∧ (Sat.quo A B C < 9007199254740991 → A * B < (Sat.quo A B C + 1) * C) ∧
    Sat.up A B C = if Sat.quo A B C = 9007199254740991 then 9007199254740991 else if decide (A * B = Sat.quo A B C * C) then Sat.quo A B C else Sat.quo A B C + 1 := by
  have nA := Sat.num_id a0 a1
  have nB := Sat.num_id b0 b1
  have nC := Sat.num_id (show 0 ≤ C by omega) c1
  have d1 := Int.mul_ediv_add_emod (A * B) C
  have d2 := Int.emod_lt_of_pos (A * B) (show 0 < C by omega)
  have d3 := Int.emod_nonneg (A * B) (show C ≠ 0 by omega)
  have d4 := Int.ediv_nonneg (Int.mul_nonneg a0 b0) (show 0 ≤ C by omega)
  unfold Sat.up Sat.rest
  unfold Sat.quo
  rw [nA, nB, nC, if_neg (by omega)]
  rw [if_neg (show ¬ C = 0 by omega)]
  generalize hq : A * B / C = q at *
  generalize hr : A * B % C = r at *
  have e1 : (min q 9007199254740991) * C ≤ q * C := Int.mul_le_mul_of_nonneg_right (by omega) (by omega)
  have e2 : C * q = q * C := Int.mul_comm _ _
  have e3 : (q + 1) * C = q * C + C := by rw [Int.add_mul, Int.one_mul]
  refine ⟨by omega, fun h => ?_, ?_⟩
  · have hm : min q 9007199254740991 = q := by omega
    rw [hm, e3]; omega
  · by_cases hb : 9007199254740991 < q
    · have hm : min q 9007199254740991 = 9007199254740991 := by omega
      rw [if_pos hb, hm]
      simp
    · have hm : min q 9007199254740991 = q := by omega
      rw [if_neg hb, hm]
      by_cases hr0 : 0 < r
      · rw [if_pos hr0]
        by_cases hq1 : q = 9007199254740991
        · rw [if_pos hq1, hq1]; rfl
        · rw [if_neg hq1, if_neg (by simp; omega)]
          exact Sat.num_id (by omega) (by omega)
      · rw [if_neg hr0]
        have : A * B = q * C := by omega
        simp [this]

theorem satexact_any (a b c : Int) (w : World) :
    Calls Try.prog 4 #[.int .i64 a, .int .i64 b, .int .i64 c] w fun e w' => e = .returned (.bool true) ∧ Below w.heap.size w w' := by
  obtain ⟨A, hA⟩ : ∃ A, max 0 (min a 9007199254740991) = A := ⟨_, rfl⟩
  obtain ⟨B, hB⟩ : ∃ B, max 0 (min b 9007199254740991) = B := ⟨_, rfl⟩
  obtain ⟨C, hC⟩ : ∃ C, max 1 (min c 9007199254740991) = C := ⟨_, rfl⟩
  obtain ⟨u1, u2, u3⟩ := up_exact (A := A) (B := B) (C := C) (by omega) (by omega) (by omega) (by omega) (by omega) (by omega)
  have q0 := Sat.quo_lo A B C
  have q1 := Sat.quo_hi A B C
  refine satexact_go a b c A B C _ _ _ _ _ _ _ _ _ _ _ _ _ _ (decide (A * B = Sat.quo A B C * C)) w hA hB hC q0 q1 (muldiv_any A B C) (mulup_any A B C) (limbs_any A B (by omega) (by omega) (by omega) (by omega)) (limbs_any _ C q0 (by omega) (by omega) (by omega))
    (fun w => (less_any _ _ _ _ _ _ _ _ w).mono fun e w' h => ?_) (limbs_any _ C (by omega) (by omega) (by omega) (by omega)) (fun hq w => (less_any _ _ _ _ _ _ _ _ w).mono fun e w' h => ?_) ?_ u3
  · rw [Sat.lessB_iff] at h
    rw [decide_eq_false u1] at h
    exact h
  · rw [Sat.lessB_iff] at h
    rw [decide_eq_true (u2 hq)] at h
    exact h
  · show _ ↔ _
    rw [decide_eq_true_eq]
    exact (Sat.limbs_eq A B _ C).symm

end Go.Proofs.Ythaagkhmmoebaaa
