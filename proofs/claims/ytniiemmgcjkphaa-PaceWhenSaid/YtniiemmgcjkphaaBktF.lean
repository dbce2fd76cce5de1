/-
  (*bucket.Bucket).When.
-/
import Derived.Test.YtniiemmgcjkphaaBktE
namespace Go.Proofs.Ytniiemmgcjkphaa
open Go.RowKit Go.Sort

set_option maxHeartbeats 4000000 in
set_option maxRecDepth 100000 in
theorem when_main (b : Nat) (s : Bkt.St) (k num den : Int) (w : World) (h : Bk w b s) (hw : Bkt.wf s) (k0 : ¬ k < 0) (kB : ¬ s.B < k) (hm : Bkt.may num den = true) (kn : ¬ k ≤ s.n) (nz : ¬ num = 0) :
    Calls Try.prog 26 #[.pointer (some ⟨b, 0, none⟩), .int .i64 k, .agg #[.int .i64 num, .int .i64 den]] w fun e w' => e = .returned (.int .i64 (Bkt.when_ s k num den)) ∧ Below w.heap.size w w' := by
  have hB : (s.B == 0) = false := by have := hw.B0; simp; omega
  have hb1 := laterA (Below.refl w.heap.size w) (.cells #[.int .i64 num, .int .i64 den] 25)
  have hR := Blk.new w 25 #[.int .i64 num, .int .i64 den]
  have h1 := Blk.later h hb1
  clear h
  generalize hw0 : w.alloc _ = W at *
  have hb0 := Lib.hid hb1
  clear hb1
  have nD : w.heap.size < W.heap.size := Blk.lt hR
  have c0 := h1.cell 0
  have r0 := hR.cell 0
  have r1 := hR.cell 1
  simp [cellsB] at c0 r0 r1
  have h1 := Lib.hid h1
  have hR := Lib.hid hR
  have hb1 := hb0
  obtain ⟨m0, m1, m2, m3⟩ := (Bkt.may_iff num den).1 hm
  have hB1 := hw.B1
  have hn0 := hw.n0
  have kr0 := Bkt.kept_lo hw num den
  have kr1 := Bkt.kept_hi hw (num := num) m2
  have w1 : IntKind.u64.wrap (k - s.n) = k - s.n := by rw [IntKind.wrap_u64]; omega
  have w2 : IntKind.u64.wrap den = den := by rw [IntKind.wrap_u64]; omega
  have w4 : IntKind.u64.wrap (num - 1) = num - 1 := by rw [IntKind.wrap_u64]; omega
  have w5 : IntKind.u64.wrap num = num := by rw [IntKind.wrap_u64]; omega
  have hM := Lib.hid (mul64_any (k - s.n) den (by omega) (by omega))
  by_cases hk : num = s.num ∧ den = s.den
  · obtain ⟨rfl, rfl⟩ := hk
    have eK : Bkt.kept s s.num s.den = s.r := by simp [Bkt.kept]
    rw [eK] at kr0 kr1
    have w3 : IntKind.u64.wrap s.r = s.r := by rw [IntKind.wrap_u64]; omega
    go_enter Try.func26, Try.ntmps26
    go_wp2_with (first | (go_at_call 50; (with_reducible refine (bnone_same _ _ _ c0 hB).mono ?_); rintro e w1 ⟨rfl, rfl⟩) | fail)
    refine (may_any _ _ _).mono ?_
    rintro e w1 ⟨rfl, hbm⟩
    have h2 := Lib.hid (Blk.later h1.out hbm)
    have hR2 := Lib.hid (Blk.later hR.out hbm)
    have hb2 := Lib.hid (later hb0.out hbm)
    clear hbm c0 r0 r1
    have c0 := h2.out.cell 0
    have c1 := h2.out.cell 1
    have c2 := h2.out.cell 2
    have c3 := h2.out.cell 3
    have c4 := h2.out.cell 4
    have c5 := h2.out.cell 5
    have r0 := hR2.out.cell 0
    have r1 := hR2.out.cell 1
    simp [cellsB] at c0 c1 c2 c3 c4 c5 r0 r1
    go_wp2_with fail
    go_quiet (fail)
    go_wp2_with fail
    have h3 := Lib.hid (Blk.drewN h2.out nq)
    have hR3 := Lib.hid (Blk.drewN hR2.out nq)
    have hb3 := Lib.hid (laterDN hb2.out nq)
    generalize w1.drewN nq = w2 at *
    clear c0 c1 c2 c3 c4 c5 r0 r1
    have c1 := h3.out.cell 1
    have c3 := h3.out.cell 3
    have r0 := hR3.out.cell 0
    have r1 := hR3.out.cell 1
    simp [cellsB] at c1 c3 r0 r1
    obtain ⟨X, hX⟩ : ∃ X, (k - s.n) * s.den = X := ⟨_, rfl⟩
    rw [hX] at hM
    obtain ⟨hi, hhi⟩ : ∃ hi, X / 18446744073709551616 = hi := ⟨_, rfl⟩
    obtain ⟨lo, hlo⟩ : ∃ lo, X % 18446744073709551616 = lo := ⟨_, rfl⟩
    rw [hhi, hlo] at hM
    have l0 : 0 ≤ lo := by rw [← hlo]; exact Int.emod_nonneg _ (by omega)
    obtain ⟨lo1, h1e⟩ : ∃ lo1, (lo - s.r) % 18446744073709551616 = lo1 := ⟨_, rfl⟩
    obtain ⟨bor, h2e⟩ : ∃ bor : Int, (if lo < s.r then 1 else 0) = bor := ⟨_, rfl⟩
    have hs := fun w => sub64_run lo s.r l0 kr0 (by omega) w
    rw [h1e, h2e] at hs
    have l1 : 0 ≤ lo1 := by rw [← h1e]; exact Int.emod_nonneg _ (by omega)
    obtain ⟨lo2, h3e⟩ : ∃ lo2, (lo1 + (s.num - 1)) % 18446744073709551616 = lo2 := ⟨_, rfl⟩
    obtain ⟨car, h4e⟩ : ∃ car, (lo1 + (s.num - 1)) / 18446744073709551616 = car := ⟨_, rfl⟩
    have ha := fun w => add64_run lo1 (s.num - 1) l1 (by omega) w
    rw [h3e, h4e] at ha
    have x0 : 0 ≤ X := by rw [← hX]; exact Int.mul_nonneg (by omega) (by omega)
    have x1 : X ≤ 1073741824 * 9007199254740991 := by rw [← hX]; exact Int.mul_le_mul (by omega) m3 (by omega) (by omega)
    obtain ⟨g1, g2⟩ := Bkt.words (T := 18446744073709551616) rfl x0 kr0 (by omega) (show 0 ≤ s.num - 1 by omega) (by omega) hlo h2e h1e
    have hp : 0 < X - s.r := by have := Bkt.dur_pos hw (k := k) (num := s.num) (by omega) m2; rw [eK] at this; rw [← hX]; exact this
    rw [hhi, h4e] at g1
    rw [h3e] at g2
    obtain ⟨Y, hY⟩ : ∃ Y, X - s.r + (s.num - 1) = Y := ⟨_, rfl⟩
    rw [hY] at g1 g2
    have y0 : 0 ≤ Y := by omega
    have w6 : IntKind.u64.wrap (IntKind.u64.wrap (hi - bor) + car) = Y / 18446744073709551616 := by
      rw [IntKind.wrap_u64, IntKind.wrap_u64]; omega
    have h1e := Lib.hid h1e
    have h2e := Lib.hid h2e
    have h3e := Lib.hid h3e
    have h4e := Lib.hid h4e
    have hX := Lib.hid hX
    have hhi := Lib.hid hhi
    have hlo := Lib.hid hlo
    have eW : Bkt.when_ s k s.num s.den = if 9007199254740991 - s.t < Y / s.num then -1 else s.t + Y / s.num := by
      have e : Bkt.dur s k s.num s.den = Y / s.num := by unfold Bkt.dur; rw [eK, hX.out, hY]
      unfold Bkt.when_
      rw [if_neg (by rw [hm]; simp; omega), if_neg (by omega), if_neg nz, e]
    have ht0 := hw.t0
    have ht1 := hw.t1
    obtain ⟨H, hH⟩ : ∃ H, Y / 18446744073709551616 = H := ⟨_, rfl⟩
    rw [hH] at w6
    replace g2 := Lib.hid g2
    clear g1 hp x0 x1
    by_cases hbig : s.num ≤ H
    · have hd : 9007199254740991 < Y / s.num := by
        have : 9007199254740992 ≤ Y / s.num := by
          rw [Int.le_ediv_iff_mul_le (by omega)]
          omega
        omega
      rw [if_pos (by omega)] at eW
      have eW := Lib.hid eW
      clear hd y0 hY hH
      go_quiet ((go_at_call 59; exact quiet_left (hM.out _)))
      go_wp2_with fail
      go_ret
      exact ⟨by simp [eW.out], laterDN hb3.out _⟩
    · have HD := div64_all Y s.num H lo2 hH g2.out.symm y0 (by omega) (by omega)
      have z0 : 0 ≤ Y / s.num := Int.ediv_nonneg y0 (by omega)
      obtain ⟨Z, hZ⟩ : ∃ Z, Y / s.num = Z := ⟨_, rfl⟩
      obtain ⟨Z', hZ'⟩ : ∃ Z', Y % s.num = Z' := ⟨_, rfl⟩
      rw [hZ, hZ'] at HD
      rw [hZ] at eW z0
      have HD := Lib.hid HD
      have w7 : IntKind.u64.wrap (9007199254740991 - s.t) = 9007199254740991 - s.t := by rw [IntKind.wrap_u64]; omega
      have nb : (H ≥ s.num) = False := by simp; omega
      clear hZ hZ' hY hH y0 kr0 kr1
      by_cases hfar : 9007199254740991 - s.t < Z
      · rw [if_pos hfar] at eW
        have eW := Lib.hid eW
        go_quiet ((go_at_call 59; exact quiet_left (hM.out _)))
        go_wp2_with fail
        refine (HD.out _).mono ?_
        rintro e w3 ⟨rfl, mm, rfl⟩
        go_wp2_with fail
        go_ret
        exact ⟨by simp [eW.out], laterDN hb3.out _⟩
      · rw [if_neg hfar] at eW
        replace eW := Lib.hid eW
        have ewz : IntKind.i64.wrap Z = Z := IntWalk.i64_in _ (by omega)
        go_quiet ((go_at_call 59; exact quiet_left (hM.out _)))
        go_wp2_with fail
        refine (HD.out _).mono ?_
        rintro e w3 ⟨rfl, mm, rfl⟩
        go_wp2_with fail
        go_ret
        exact ⟨by simp [eW.out], laterDN hb3.out _⟩
  · have q1 : (num == s.num && den == s.den) = false := by simpa using hk
    have q2 := eq_rate num den s.num s.den
    have eK : Bkt.kept s num den = 0 := by simp [Bkt.kept, hk]
    clear hk
    rw [eK] at kr0 kr1
    go_enter Try.func26, Try.ntmps26
    go_wp2_with (first | (go_at_call 50; (with_reducible refine (bnone_same _ _ _ c0 hB).mono ?_); rintro e w1 ⟨rfl, rfl⟩) | fail)
    refine (may_any _ _ _).mono ?_
    rintro e w1 ⟨rfl, hbm⟩
    have h2 := Lib.hid (Blk.later h1.out hbm)
    have hR2 := Lib.hid (Blk.later hR.out hbm)
    have hb2 := Lib.hid (later hb0.out hbm)
    clear hbm c0 r0 r1
    have c0 := h2.out.cell 0
    have c1 := h2.out.cell 1
    have c2 := h2.out.cell 2
    have c3 := h2.out.cell 3
    have c4 := h2.out.cell 4
    have c5 := h2.out.cell 5
    have r0 := hR2.out.cell 0
    have r1 := hR2.out.cell 1
    simp [cellsB] at c0 c1 c2 c3 c4 c5 r0 r1
    go_wp2_with fail
    go_quiet (fail)
    go_wp2_with fail
    have h3 := Lib.hid (Blk.drewN h2.out nq)
    have hR3 := Lib.hid (Blk.drewN hR2.out nq)
    have hb3 := Lib.hid (laterDN hb2.out nq)
    generalize w1.drewN nq = w2 at *
    clear c0 c1 c2 c3 c4 c5 r0 r1
    have c1 := h3.out.cell 1
    have c3 := h3.out.cell 3
    have r0 := hR3.out.cell 0
    have r1 := hR3.out.cell 1
    simp [cellsB] at c1 c3 r0 r1
    obtain ⟨X, hX⟩ : ∃ X, (k - s.n) * den = X := ⟨_, rfl⟩
    rw [hX] at hM
    obtain ⟨hi, hhi⟩ : ∃ hi, X / 18446744073709551616 = hi := ⟨_, rfl⟩
    obtain ⟨lo, hlo⟩ : ∃ lo, X % 18446744073709551616 = lo := ⟨_, rfl⟩
    rw [hhi, hlo] at hM
    have l0 : 0 ≤ lo := by rw [← hlo]; exact Int.emod_nonneg _ (by omega)
    obtain ⟨lo1, h1e⟩ : ∃ lo1, (lo - 0) % 18446744073709551616 = lo1 := ⟨_, rfl⟩
    obtain ⟨bor, h2e⟩ : ∃ bor : Int, (if lo < 0 then 1 else 0) = bor := ⟨_, rfl⟩
    have hs := fun w => sub64_run lo 0 l0 kr0 (by omega) w
    rw [h1e, h2e] at hs
    have l1 : 0 ≤ lo1 := by rw [← h1e]; exact Int.emod_nonneg _ (by omega)
    obtain ⟨lo2, h3e⟩ : ∃ lo2, (lo1 + (num - 1)) % 18446744073709551616 = lo2 := ⟨_, rfl⟩
    obtain ⟨car, h4e⟩ : ∃ car, (lo1 + (num - 1)) / 18446744073709551616 = car := ⟨_, rfl⟩
    have ha := fun w => add64_run lo1 (num - 1) l1 (by omega) w
    rw [h3e, h4e] at ha
    have x0 : 0 ≤ X := by rw [← hX]; exact Int.mul_nonneg (by omega) (by omega)
    have x1 : X ≤ 1073741824 * 9007199254740991 := by rw [← hX]; exact Int.mul_le_mul (by omega) m3 (by omega) (by omega)
    obtain ⟨g1, g2⟩ := Bkt.words (T := 18446744073709551616) rfl x0 kr0 (by omega) (show 0 ≤ num - 1 by omega) (by omega) hlo h2e h1e
    have hp : 0 < X - 0 := by have := Bkt.dur_pos hw (k := k) (num := num) (by omega) m2; rw [eK] at this; rw [← hX]; exact this
    rw [hhi, h4e] at g1
    rw [h3e] at g2
    obtain ⟨Y, hY⟩ : ∃ Y, X - 0 + (num - 1) = Y := ⟨_, rfl⟩
    rw [hY] at g1 g2
    have y0 : 0 ≤ Y := by omega
    have w6 : IntKind.u64.wrap (IntKind.u64.wrap (hi - bor) + car) = Y / 18446744073709551616 := by
      rw [IntKind.wrap_u64, IntKind.wrap_u64]; omega
    have h1e := Lib.hid h1e
    have h2e := Lib.hid h2e
    have h3e := Lib.hid h3e
    have h4e := Lib.hid h4e
    have hX := Lib.hid hX
    have hhi := Lib.hid hhi
    have hlo := Lib.hid hlo
    have eW : Bkt.when_ s k num den = if 9007199254740991 - s.t < Y / num then -1 else s.t + Y / num := by
      have e : Bkt.dur s k num den = Y / num := by unfold Bkt.dur; rw [eK, hX.out, hY]
      unfold Bkt.when_
      rw [if_neg (by rw [hm]; simp; omega), if_neg (by omega), if_neg nz, e]
    have ht0 := hw.t0
    have ht1 := hw.t1
    obtain ⟨H, hH⟩ : ∃ H, Y / 18446744073709551616 = H := ⟨_, rfl⟩
    rw [hH] at w6
    replace g2 := Lib.hid g2
    clear g1 hp x0 x1
    by_cases hbig : num ≤ H
    · have hd : 9007199254740991 < Y / num := by
        have : 9007199254740992 ≤ Y / num := by
          rw [Int.le_ediv_iff_mul_le (by omega)]
          omega
        omega
      rw [if_pos (by omega)] at eW
      have eW := Lib.hid eW
      clear hd y0 hY hH
      go_quiet ((go_at_call 59; exact quiet_left (hM.out _)))
      go_wp2_with fail
      go_ret
      exact ⟨by simp [eW.out], laterDN hb3.out _⟩
    · have HD := div64_all Y num H lo2 hH g2.out.symm y0 (by omega) (by omega)
      have z0 : 0 ≤ Y / num := Int.ediv_nonneg y0 (by omega)
      obtain ⟨Z, hZ⟩ : ∃ Z, Y / num = Z := ⟨_, rfl⟩
      obtain ⟨Z', hZ'⟩ : ∃ Z', Y % num = Z' := ⟨_, rfl⟩
      rw [hZ, hZ'] at HD
      rw [hZ] at eW z0
      have HD := Lib.hid HD
      have w7 : IntKind.u64.wrap (9007199254740991 - s.t) = 9007199254740991 - s.t := by rw [IntKind.wrap_u64]; omega
      have nb : (H ≥ num) = False := by simp; omega
      clear hZ hZ' hY hH y0 kr0 kr1
      by_cases hfar : 9007199254740991 - s.t < Z
      · rw [if_pos hfar] at eW
        have eW := Lib.hid eW
        go_quiet ((go_at_call 59; exact quiet_left (hM.out _)))
        go_wp2_with fail
        refine (HD.out _).mono ?_
        rintro e w3 ⟨rfl, mm, rfl⟩
        go_wp2_with fail
        go_ret
        exact ⟨by simp [eW.out], laterDN hb3.out _⟩
      · rw [if_neg hfar] at eW
        replace eW := Lib.hid eW
        have ewz : IntKind.i64.wrap Z = Z := IntWalk.i64_in _ (by omega)
        go_quiet ((go_at_call 59; exact quiet_left (hM.out _)))
        go_wp2_with fail
        refine (HD.out _).mono ?_
        rintro e w3 ⟨rfl, mm, rfl⟩
        go_wp2_with fail
        go_ret
        exact ⟨by simp [eW.out], laterDN hb3.out _⟩

set_option maxHeartbeats 4000000 in
set_option maxRecDepth 100000 in
theorem when_any (b : Nat) (s : Bkt.St) (k num den : Int) (w : World) (h : Bk w b s) (hw : Bkt.wf s) :
    Calls Try.prog 26 #[.pointer (some ⟨b, 0, none⟩), .int .i64 k, .agg #[.int .i64 num, .int .i64 den]] w fun e w' => e = .returned (.int .i64 (Bkt.when_ s k num den)) ∧ Below w.heap.size w w' := by
  have h00 := Lib.hid h
  have hB : (s.B == 0) = false := by have := hw.B0; simp; omega
  have hb1 := laterA (Below.refl w.heap.size w) (.cells #[.int .i64 num, .int .i64 den] 25)
  have hR := Blk.new w 25 #[.int .i64 num, .int .i64 den]
  have h1 := Blk.later h hb1
  clear h
  generalize hw0 : w.alloc _ = W at *
  have hb0 := Lib.hid hb1
  clear hb1
  have nD : w.heap.size < W.heap.size := Blk.lt hR
  have c0 := h1.cell 0
  have r0 := hR.cell 0
  have r1 := hR.cell 1
  simp [cellsB] at c0 r0 r1
  have h1 := Lib.hid h1
  have hR := Lib.hid hR
  have hb1 := hb0
  by_cases k0 : k < 0
  · rw [show Bkt.when_ s k num den = -1 by simp [Bkt.when_, k0]]
    go_enter Try.func26, Try.ntmps26
    go_wp2_with (first | (go_at_call 50; (with_reducible refine (bnone_same _ _ _ c0 hB).mono ?_); rintro e w1 ⟨rfl, rfl⟩) | fail)
    go_ret
    exact ⟨rfl, hb1.out⟩
  · by_cases kB : s.B < k
    · rw [show Bkt.when_ s k num den = -1 by simp [Bkt.when_, kB]]
      go_enter Try.func26, Try.ntmps26
      go_wp2_with (first | (go_at_call 50; (with_reducible refine (bnone_same _ _ _ c0 hB).mono ?_); rintro e w1 ⟨rfl, rfl⟩) | fail)
      go_ret
      exact ⟨rfl, hb1.out⟩
    · cases hm : Bkt.may num den
      · rw [show Bkt.when_ s k num den = -1 by simp [Bkt.when_, hm]]
        go_enter Try.func26, Try.ntmps26
        go_wp2_with (first | (go_at_call 50; (with_reducible refine (bnone_same _ _ _ c0 hB).mono ?_); rintro e w1 ⟨rfl, rfl⟩) | fail)
        refine (may_any _ _ _).mono ?_
        rintro e w1 ⟨rfl, hbm⟩
        have h2 := Lib.hid (Blk.later h1.out hbm)
        have hR2 := Lib.hid (Blk.later hR.out hbm)
        have hb2 := Lib.hid (later hb0.out hbm)
        clear hbm c0 r0 r1
        have c0 := h2.out.cell 0
        have c1 := h2.out.cell 1
        have c2 := h2.out.cell 2
        have c3 := h2.out.cell 3
        have c4 := h2.out.cell 4
        have c5 := h2.out.cell 5
        have r0 := hR2.out.cell 0
        have r1 := hR2.out.cell 1
        simp [cellsB] at c0 c1 c2 c3 c4 c5 r0 r1
        go_wp2_with fail
        go_ret
        exact ⟨rfl, hb2.out⟩
      · by_cases kn : k ≤ s.n
        · rw [show Bkt.when_ s k num den = s.t by simp [Bkt.when_, hm, kn, k0, kB]]
          go_enter Try.func26, Try.ntmps26
          go_wp2_with (first | (go_at_call 50; (with_reducible refine (bnone_same _ _ _ c0 hB).mono ?_); rintro e w1 ⟨rfl, rfl⟩) | fail)
          refine (may_any _ _ _).mono ?_
          rintro e w1 ⟨rfl, hbm⟩
          have h2 := Lib.hid (Blk.later h1.out hbm)
          have hR2 := Lib.hid (Blk.later hR.out hbm)
          have hb2 := Lib.hid (later hb0.out hbm)
          clear hbm c0 r0 r1
          have c0 := h2.out.cell 0
          have c1 := h2.out.cell 1
          have c2 := h2.out.cell 2
          have c3 := h2.out.cell 3
          have c4 := h2.out.cell 4
          have c5 := h2.out.cell 5
          have r0 := hR2.out.cell 0
          have r1 := hR2.out.cell 1
          simp [cellsB] at c0 c1 c2 c3 c4 c5 r0 r1
          go_wp2_with fail
          go_ret
          exact ⟨rfl, hb2.out⟩
        · by_cases nz : num = 0
          · subst nz
            rw [show Bkt.when_ s k 0 den = -1 by simp [Bkt.when_, hm, kn]]
            go_enter Try.func26, Try.ntmps26
            go_wp2_with (first | (go_at_call 50; (with_reducible refine (bnone_same _ _ _ c0 hB).mono ?_); rintro e w1 ⟨rfl, rfl⟩) | fail)
            refine (may_any _ _ _).mono ?_
            rintro e w1 ⟨rfl, hbm⟩
            have h2 := Lib.hid (Blk.later h1.out hbm)
            have hR2 := Lib.hid (Blk.later hR.out hbm)
            have hb2 := Lib.hid (later hb0.out hbm)
            clear hbm c0 r0 r1
            have c0 := h2.out.cell 0
            have c1 := h2.out.cell 1
            have c2 := h2.out.cell 2
            have c3 := h2.out.cell 3
            have c4 := h2.out.cell 4
            have c5 := h2.out.cell 5
            have r0 := hR2.out.cell 0
            have r1 := hR2.out.cell 1
            simp [cellsB] at c0 c1 c2 c3 c4 c5 r0 r1
            go_wp2_with fail
            go_ret
            exact ⟨rfl, hb2.out⟩
          · exact when_main b s k num den w h00.out hw k0 kB hm kn nz
end Go.Proofs.Ytniiemmgcjkphaa
