/-
  Layer 5: Wait, once more (names of their own).
-/
import Derived.Test.YtpagdcobhbkabaaDoorFrA
namespace Go.Proofs.YtpagdcobhbkabaaDoor
open Go.RowKit Go.Sort Go.Shelf Go.Deep Go.WideShapes

theorem fback_any (n : Int) (h0 : 0 ≤ n) (w : World) :
    Calls Tryd.prog 71 #[.int .u64 n] w fun e w' => e = .returned (.int .i64 (min n 9007199254740991)) ∧ Below w.heap.size w w' := same_below (back_same n h0 w)

theorem fmuldiv_any (a b c : Int) (w : World) :
    Calls Tryd.prog 65 #[.int .i64 a, .int .i64 b, .int .i64 c] w fun e w' => e = .returned (.int .i64 (Sat.quo a b c)) ∧ Below w.heap.size w w' := by
  by_cases h : Sat.num c ≤ Sat.num a * Sat.num b / 18446744073709551616
  · rw [(not_quo h).1]
    have HP := Lib.hid (parts_not a b c _ _ rfl rfl h)
    clear h
    go_enter Tryd.func65, Tryd.ntmps65
    go_wp2_with (go_at_call 70; (with_reducible refine (HP.out _).mono ?_); rintro e w1 ⟨rfl, hb⟩)
    go_ret
    exact ⟨rfl, by assumption⟩
  · obtain ⟨e1, _, q0, _, _⟩ := fits_quo (Int.not_le.1 h)
    rw [e1]
    clear e1
    have HP := Lib.hid (parts_fits a b c _ _ _ _ rfl rfl (Int.not_le.1 h) rfl rfl)
    clear h
    generalize Sat.num a * Sat.num b / Sat.num c = q at *
    generalize Sat.num a * Sat.num b % Sat.num c = r at *
    go_enter Tryd.func65, Tryd.ntmps65
    go_wp2_with (first | (go_at_call 70; (with_reducible refine (HP.out _).mono ?_); rintro e w1 ⟨rfl, hb⟩) | (go_at_call 71; (with_reducible refine (fback_any _ q0 _).mono ?_); rintro e w1 ⟨rfl, hb⟩))
    go_ret
    exact ⟨rfl, (by repeat (first | with_reducible assumption | with_reducible exact Below.refl _ _ | with_reducible exact later ‹_› ‹_› | refine later ?_ (by with_reducible assumption) | refine laterA ?_ _ | refine laterDN ?_ _ | refine laterD ?_ | refine laterR ?_ _ _))⟩

theorem fmul_any (a b : Int) (w : World) :
    Calls Tryd.prog 54 #[.int .i64 a, .int .i64 b] w fun e w' => e = .returned (.int .i64 (Sat.mul a b)) ∧ Below w.heap.size w w' := by
  go_enter Tryd.func54, Tryd.ntmps54
  go_wp2_with (go_at_call 65; (with_reducible refine (fmuldiv_any _ _ _ _).mono ?_); rintro e w1 ⟨rfl, hb⟩)
  go_ret
  exact ⟨rfl, by assumption⟩

theorem fwait_any (d x : Int) (w : World) : Calls Tryd.prog 30 #[.int .i64 d, .int .i64 x] w fun e w' => e = .returned (.tuple #[.int .i64 (if Frm.waitOk d x = true then Frm.wait d x else 0), .int .i64 (if Frm.waitOk d x = true then 0 else 9)]) ∧ Below w.heap.size w w' := by
  have hn := isn_any d w
  unfold Frm.waitOk
  cases hi : Frm.isN d with
  | false =>
    rw [hi] at hn
    simp only [Bool.false_and, Bool.false_eq_true, ↓reduceIte]
    go_enter Tryd.func30, Tryd.ntmps30
    go_wp2_with fail
    with_reducible refine hn.mono ?_
    rintro e w1 ⟨rfl, rfl⟩
    go_wp2
    go_ret2
    exact ⟨rfl, Below.refl _ _⟩
  | true =>
    rw [hi] at hn
    obtain ⟨d0, d1⟩ := (Frm.isN_iff d).1 hi
    by_cases h0 : 0 ≤ x
    · by_cases h1 : x ≤ 20
      · rw [decide_eq_true h0, decide_eq_true h1]
        simp only [Bool.and_self, ↓reduceIte]
        obtain ⟨X, rfl⟩ : ∃ X : Nat, x = X := ⟨x.toNat, by omega⟩
        obtain ⟨p0, p1⟩ := Frm.pow_one (x := X) (by omega)
        have hM := fmul_any d (2 ^ X) w
        rw [Frm.sat_mul d0 d1 (by omega) (by omega)] at hM
        have hm0 : 0 ≤ d * 2 ^ X := Int.mul_nonneg d0 (by omega)
        have hM2 := fun W => fmul_any (min (d * 2 ^ X) 9007199254740991) 1000 W
        simp only [Frm.sat_mul (show 0 ≤ min (d * 2 ^ X) 9007199254740991 by omega) (show min (d * 2 ^ X) 9007199254740991 ≤ 9007199254740991 by omega) (show (0 : Int) ≤ 1000 by decide) (show (1000 : Int) ≤ 9007199254740991 by decide)] at hM2
        unfold Frm.wait
        rw [Int.toNat_natCast, Int.mul_comm 1000]
        have hlt : (X : Int) < 64 := by omega
        generalize hMM : min (d * 2 ^ X) 9007199254740991 = M1 at *
        generalize hM3 : min (M1 * 1000) 9007199254740991 = M3 at *
        clear hm0 hMM hM3
        replace hM := Lib.hid hM
        replace hM2 := Lib.hid hM2
        go_enter Tryd.func30, Tryd.ntmps30
        go_wp2_with fail
        with_reducible refine hn.mono ?_
        rintro e w1 ⟨rfl, rfl⟩
        go_wp2_with fail
        with_reducible refine hM.out.mono ?_
        rintro e w1 ⟨rfl, hb⟩
        go_wp2_with fail
        with_reducible refine (hM2.out _).mono ?_
        rintro e w2 ⟨rfl, hb2⟩
        go_wp2
        go_ret2
        exact ⟨rfl, later hb hb2⟩
      · rw [decide_eq_false h1]
        simp only [Bool.and_false, Bool.false_eq_true, ↓reduceIte]
        go_enter Tryd.func30, Tryd.ntmps30
        go_wp2_with fail
        with_reducible refine hn.mono ?_
        rintro e w1 ⟨rfl, rfl⟩
        go_wp2
        go_ret2
        exact ⟨rfl, Below.refl _ _⟩
    · rw [decide_eq_false h0]
      simp only [Bool.and_false, Bool.false_and, Bool.false_eq_true, ↓reduceIte]
      go_enter Tryd.func30, Tryd.ntmps30
      go_wp2_with fail
      with_reducible refine hn.mono ?_
      rintro e w1 ⟨rfl, rfl⟩
      go_wp2
      go_ret2
      exact ⟨rfl, Below.refl _ _⟩

end Go.Proofs.YtpagdcobhbkabaaDoor
