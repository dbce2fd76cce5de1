/-
  Layer 5: the chapter's examples: one, fails.
-/
import Derived.Test.YtpagdcobhbkabaaDoorFrQ
import Derived.Test.YtpagdcobhbkabaaDoorFrA
namespace Go.Proofs.YtpagdcobhbkabaaDoor
open Go.RowKit Go.Sort Go.Shelf Go.Deep Go.WideShapes

theorem results_c1 {fn : Func} {p : Tmp} (h : fn.results = #[.cell p 25]) (tmps : Array Value) (w : World) {g : Nat} {cs : Array Value} {t : TypeId} (hp : tmps.getD p undef = .pointer (some ⟨g, 0, none⟩)) (hg : Blk w g t cs) (hs : cs.size = 6) :
    (results fn tmps).run Tryd.prog w = .ok (.agg cs) w := by
  have hp' : tmps[p]?.getD undef = .pointer (some ⟨g, 0, none⟩) := by simpa using hp
  simp [results, h, hp', asAddr, load_ack hg hs]
theorem one_any (A : Option Addr) (n c : Nat) (rs : List (Int × Int)) (w : World) : Calls Tryd.prog 45 #[.slice A n c] w fun e w' => e = .returned (av ⟨0, rs, false, 0, 0, 0⟩ A n c) ∧ w' = w.alloc (.cells #[.int .i64 0, .slice A n c, .bool false, .int .i64 0, .int .i64 0, .int .i64 0] 25) := by
  have hbx := Blk.new w 25 #[.int .i64 0, .slice A n c, .bool false, .int .i64 0, .int .i64 0, .int .i64 0]
  unfold av
  go_enter Tryd.func45, Tryd.ntmps45
  go_wp2_with fail
  refine bodyPost_ret (results_c1 rfl _ _ rfl hbx rfl) rfl ?_
  exact ⟨rfl, rfl⟩
set_option maxRecDepth 100000 in
set_option maxHeartbeats 2000000 in
theorem fails_any (err : Int) (A : Option Addr) (n c q : Nat) (l : List Int) (w : World) (h0 : 0 < w.heap.size) (h : Sl w q A n c l) (hs : n ≤ 10000) (hb : Oct.Bys l) :
    Calls Tryd.prog 25 #[.int .i64 err, .slice A n c] w fun e w' => e = .returned (.bool (decide ((Frm.nxt l).2.1 = 0) && decide ((Frm.nxt l).2.2 = err))) ∧ Below w.heap.size w w' := by
  have hN := next_any A n c q l w h0 h hs hb
  obtain ⟨a, k, f, hx⟩ : ∃ a k f, Frm.nxt l = (a, k, f) := ⟨_, _, _, rfl⟩
  rw [hx] at hN ⊢
  simp only
  clear hx h
  go_enter Tryd.func25, Tryd.ntmps25
  go_wp2_with fail
  with_reducible refine hN.mono ?_
  rintro e w1 ⟨A1, n1, c1, rfl, _, _, hb1⟩
  clear hN
  unfold av
  have hb2 := laterA hb1 (.cells #[.int .i64 a.d, .slice A1 n1 c1, .bool a.mkd, .int .i64 a.e0, .int .i64 a.e1, .int .i64 a.e2] 25)
  replace hb1 := Lib.hid hb1
  replace hb2 := Lib.hid hb2
  by_cases hk : k = 0
  · by_cases hf : f = err
    · go_wp2_with fail
      go_ret
      exact ⟨by rw [decide_eq_true hk, decide_eq_true hf]; rfl, hb2.out⟩
    · go_wp2_with fail
      go_ret
      have hfe : (f == err) = false := by simp [hf]
      exact ⟨by rw [decide_eq_true hk, decide_eq_false hf, Bool.true_and, ← hfe]; rfl, hb2.out⟩
  · go_wp2_with fail
    go_ret
    exact ⟨by rw [decide_eq_false hk]; rfl, hb2.out⟩
theorem fback_any (n : Int) (h0 : 0 ≤ n) (w : World) :
    Calls Tryd.prog 71 #[.int .u64 n] w fun e w' => e = .returned (.int .i64 (min n 9007199254740991)) ∧ Below w.heap.size w w' := same_below (back_same n h0 w)

theorem fmuldiv_any (a b c : Int) (w : World) :
    Calls Tryd.prog 65 #[.int .i64 a, .int .i64 b, .int .i64 c] w fun e w' => e = .returned (.int .i64 (Sat.quo a b c)) ∧ Below w.heap.size w w' := by
  by_cases h : Sat.num c ≤ Sat.num a * Sat.num b / 18446744073709551616
  · rw [(not_quo h).1]
    have HP := Lib.hid (parts_not a b c _ _ rfl rfl h)
    clear h
    go_enter Tryd.func65, Tryd.ntmps65
    go_wp2_with (go_at_call 70; (with_reducible refine (HP.out _).mono ?_); rintro e w1 ⟨rfl, hb⟩)
    go_ret
    exact ⟨rfl, by assumption⟩
  · obtain ⟨e1, _, q0, _, _⟩ := fits_quo (Int.not_le.1 h)
    rw [e1]
    clear e1
    have HP := Lib.hid (parts_fits a b c _ _ _ _ rfl rfl (Int.not_le.1 h) rfl rfl)
    clear h
    generalize Sat.num a * Sat.num b / Sat.num c = q at *
    generalize Sat.num a * Sat.num b % Sat.num c = r at *
    go_enter Tryd.func65, Tryd.ntmps65
    go_wp2_with (first | (go_at_call 70; (with_reducible refine (HP.out _).mono ?_); rintro e w1 ⟨rfl, hb⟩) | (go_at_call 71; (with_reducible refine (fback_any _ q0 _).mono ?_); rintro e w1 ⟨rfl, hb⟩))
    go_ret
    exact ⟨rfl, (by repeat (first | with_reducible assumption | with_reducible exact Below.refl _ _ | with_reducible exact later ‹_› ‹_› | refine later ?_ (by with_reducible assumption) | refine laterA ?_ _ | refine laterDN ?_ _ | refine laterD ?_ | refine laterR ?_ _ _))⟩

theorem fmul_any (a b : Int) (w : World) :
    Calls Tryd.prog 54 #[.int .i64 a, .int .i64 b] w fun e w' => e = .returned (.int .i64 (Sat.mul a b)) ∧ Below w.heap.size w w' := by
  go_enter Tryd.func54, Tryd.ntmps54
  go_wp2_with (go_at_call 65; (with_reducible refine (fmuldiv_any _ _ _ _).mono ?_); rintro e w1 ⟨rfl, hb⟩)
  go_ret
  exact ⟨rfl, by assumption⟩

theorem fwait_any (d x : Int) (w : World) : Calls Tryd.prog 30 #[.int .i64 d, .int .i64 x] w fun e w' => e = .returned (.tuple #[.int .i64 (if Frm.waitOk d x = true then Frm.wait d x else 0), .int .i64 (if Frm.waitOk d x = true then 0 else 9)]) ∧ Below w.heap.size w w' := by
  have hn := isn_any d w
  unfold Frm.waitOk
  cases hi : Frm.isN d with
  | false =>
    rw [hi] at hn
    simp only [Bool.false_and, Bool.false_eq_true, ↓reduceIte]
    go_enter Tryd.func30, Tryd.ntmps30
    go_wp2_with fail
    with_reducible refine hn.mono ?_
    rintro e w1 ⟨rfl, rfl⟩
    go_wp2
    go_ret2
    exact ⟨rfl, Below.refl _ _⟩
  | true =>
    rw [hi] at hn
    obtain ⟨d0, d1⟩ := (Frm.isN_iff d).1 hi
    by_cases h0 : 0 ≤ x
    · by_cases h1 : x ≤ 20
      · rw [decide_eq_true h0, decide_eq_true h1]
        simp only [Bool.and_self, ↓reduceIte]
        obtain ⟨X, rfl⟩ : ∃ X : Nat, x = X := ⟨x.toNat, by omega⟩
        obtain ⟨p0, p1⟩ := Frm.pow_one (x := X) (by omega)
        have hM := fmul_any d (2 ^ X) w
        rw [Frm.sat_mul d0 d1 (by omega) (by omega)] at hM
        have hm0 : 0 ≤ d * 2 ^ X := Int.mul_nonneg d0 (by omega)
        have hM2 := fun W => fmul_any (min (d * 2 ^ X) 9007199254740991) 1000 W
        simp only [Frm.sat_mul (show 0 ≤ min (d * 2 ^ X) 9007199254740991 by omega) (show min (d * 2 ^ X) 9007199254740991 ≤ 9007199254740991 by omega) (show (0 : Int) ≤ 1000 by decide) (show (1000 : Int) ≤ 9007199254740991 by decide)] at hM2
        unfold Frm.wait
        rw [Int.toNat_natCast, Int.mul_comm 1000]
        have hlt : (X : Int) < 64 := by omega
        generalize hMM : min (d * 2 ^ X) 9007199254740991 = M1 at *
        generalize hM3 : min (M1 * 1000) 9007199254740991 = M3 at *
        clear hm0 hMM hM3
        replace hM := Lib.hid hM
        replace hM2 := Lib.hid hM2
        go_enter Tryd.func30, Tryd.ntmps30
        go_wp2_with fail
        with_reducible refine hn.mono ?_
        rintro e w1 ⟨rfl, rfl⟩
        go_wp2_with fail
        with_reducible refine hM.out.mono ?_
        rintro e w1 ⟨rfl, hb⟩
        go_wp2_with fail
        with_reducible refine (hM2.out _).mono ?_
        rintro e w2 ⟨rfl, hb2⟩
        go_wp2
        go_ret2
        exact ⟨rfl, later hb hb2⟩
      · rw [decide_eq_false h1]
        simp only [Bool.and_false, Bool.false_eq_true, ↓reduceIte]
        go_enter Tryd.func30, Tryd.ntmps30
        go_wp2_with fail
        with_reducible refine hn.mono ?_
        rintro e w1 ⟨rfl, rfl⟩
        go_wp2
        go_ret2
        exact ⟨rfl, Below.refl _ _⟩
    · rw [decide_eq_false h0]
      simp only [Bool.and_false, Bool.false_and, Bool.false_eq_true, ↓reduceIte]
      go_enter Tryd.func30, Tryd.ntmps30
      go_wp2_with fail
      with_reducible refine hn.mono ?_
      rintro e w1 ⟨rfl, rfl⟩
      go_wp2
      go_ret2
      exact ⟨rfl, Below.refl _ _⟩
end Go.Proofs.YtpagdcobhbkabaaDoor
