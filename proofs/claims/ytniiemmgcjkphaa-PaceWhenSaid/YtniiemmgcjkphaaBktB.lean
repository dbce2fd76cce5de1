/-
  Package bucket: Fill.
-/
import Derived.Test.YtniiemmgcjkphaaBktA
namespace Go.Proofs.Ytniiemmgcjkphaa
open Go.RowKit Go.Sort

set_option maxRecDepth 100000 in
theorem fill_any (b : Nat) (s : Bkt.St) (t num den : Int) (w : World) (h : Bk w b s) (hw : Bkt.wf s) :
    Calls Try.prog 19 #[.pointer (some ⟨b, 0, none⟩), .int .i64 t, .agg #[.int .i64 num, .int .i64 den]] w fun e w' => e = .returned (.int .i64 (Bkt.fillE s t num den)) ∧ Bk w' b (Bkt.fillS s t num den) ∧ w.grownBy w' (some b) := by
  have c0 := h.cell 0
  have c3 := h.cell 3
  simp [cellsB] at c0 c3
  have H := Lib.hid h
  clear h
  have hB : (s.B == 0) = false := by have := hw.B0; simp; omega
  by_cases ok : (Sat.isN t && Bkt.may num den) = true
  · obtain ⟨k1, k2⟩ := Bool.and_eq_true_iff.1 ok
    by_cases ht : t < s.t
    · go_enter Try.func19, Try.ntmps19
      go_wp2_with fail
      have hR := Blk.new w 25 #[.int .i64 num, .int .i64 den]
      have hb1 := laterA (Below.refl w.heap.size w) (.cells #[.int .i64 num, .int .i64 den] 25)
      have h1 := Blk.later H.out hb1
      have n1 : w.heap.size ≠ b := by have := Blk.lt H.out; omega
      have ho := one_later (one_refl w b) hb1
      clear hb1
      clear c0 c3
      generalize hw0 : w.alloc _ = W at *
      generalize hD : w.heap.size = D at *
      have c0 := h1.cell 0
      have c3 := h1.cell 3
      have r0 := hR.cell 0
      have r1 := hR.cell 1
      simp [cellsB] at c0 c3 r0 r1
      have h1 := Lib.hid h1
      have hR := Lib.hid hR
      have ho := Lib.hid ho
      go_wp2_with (first | (go_at_call 50; (with_reducible refine (bnone_same _ _ _ c0 hB).mono ?_); rintro e w1 ⟨rfl, rfl⟩) | (go_at_call 49; (with_reducible refine (is_same _ _).mono ?_); rintro e w1 ⟨rfl, rfl⟩) | fail)
      refine (may_any _ _ _).mono ?_
      rintro e w1 ⟨rfl, hbm⟩
      have h2 := Lib.hid (Blk.later h1.out hbm)
      have ho2 := Lib.hid (one_later ho.out hbm)
      have hR2 := Lib.hid (Blk.later hR.out hbm)
      have c3 := h2.out.cell 3
      have r0 := hR2.out.cell 0
      have r1 := hR2.out.cell 1
      simp [cellsB] at c3 r0 r1
      clear hbm
      go_wp2_with fail
      go_ret
      refine ⟨by simp [Bkt.fillE, ok, ht], ?_, ho2.out⟩
      rw [show Bkt.fillS s t num den = s by simp [Bkt.fillS, Bkt.fillE, ok, ht]]
      exact h2.out
    · have m0 := (Sat.isN_iff t).1 k1
      obtain ⟨m2, m3, m4, m5⟩ := (Bkt.may_iff num den).1 k2
      obtain ⟨_, m1⟩ := m0
      obtain ⟨q, hq⟩ : ∃ q, Sat.quo (t - s.t) num den = q := ⟨_, rfl⟩
      obtain ⟨r, hr⟩ : ∃ r, Sat.rest (t - s.t) num den = r := ⟨_, rfl⟩
      obtain ⟨x0, x1, hfill⟩ := Bkt.fill_code hw (by omega) m1 m2 m3 m4 m5 hq hr
      obtain ⟨Q, hQ⟩ : ∃ Q, (if den ≤ r + Bkt.kept s num den then Sat.add q 1 else q) = Q := ⟨_, rfl⟩
      obtain ⟨R, hR⟩ : ∃ R, (if den ≤ r + Bkt.kept s num den then r + Bkt.kept s num den - den else r + Bkt.kept s num den) = R := ⟨_, rfl⟩
      have hfill := Lib.hid (hfill Q R hQ hR)
      have hQ := Lib.hid hQ
      have hR0 := Lib.hid hR
      clear hR
      have hq := Lib.hid hq
      have hr := Lib.hid hr
      go_enter Try.func19, Try.ntmps19
      go_wp2_with fail
      have hR := Blk.new w 25 #[.int .i64 num, .int .i64 den]
      have hb1 := laterA (Below.refl w.heap.size w) (.cells #[.int .i64 num, .int .i64 den] 25)
      have h1 := Blk.later H.out hb1
      have n1 : w.heap.size ≠ b := by have := Blk.lt H.out; omega
      have ho := one_later (one_refl w b) hb1
      clear hb1
      clear c0 c3
      generalize hw0 : w.alloc _ = W at *
      generalize hD : w.heap.size = D at *
      have c0 := h1.cell 0
      have c3 := h1.cell 3
      have r0 := hR.cell 0
      have r1 := hR.cell 1
      simp [cellsB] at c0 c3 r0 r1
      have h1 := Lib.hid h1
      have hR := Lib.hid hR
      have ho := Lib.hid ho
      go_wp2_with (first | (go_at_call 50; (with_reducible refine (bnone_same _ _ _ c0 hB).mono ?_); rintro e w1 ⟨rfl, rfl⟩) | (go_at_call 49; (with_reducible refine (is_same _ _).mono ?_); rintro e w1 ⟨rfl, rfl⟩) | fail)
      refine (may_any _ _ _).mono ?_
      rintro e w1 ⟨rfl, hbm⟩
      have h2 := Lib.hid (Blk.later h1.out hbm)
      have ho2 := Lib.hid (one_later ho.out hbm)
      have hR2 := Lib.hid (Blk.later hR.out hbm)
      have c3 := h2.out.cell 3
      have r0 := hR2.out.cell 0
      have r1 := hR2.out.cell 1
      simp [cellsB] at c3 r0 r1
      clear hbm
      go_wp2_with fail
      have hF := Blk.new w1 98 #[.func (.func 52) #[.pointer (some ⟨b, 0, none⟩)] #[], .func (.func 53) #[.pointer (some ⟨b, 0, none⟩)] #[], .func (.func 54) #[.pointer (some ⟨b, 0, none⟩)] #[]]
      have hb3 := laterA (Below.refl w1.heap.size w1) (.cells #[.func (.func 52) #[.pointer (some ⟨b, 0, none⟩)] #[], .func (.func 53) #[.pointer (some ⟨b, 0, none⟩)] #[], .func (.func 54) #[.pointer (some ⟨b, 0, none⟩)] #[]] 98)
      have h3 := Lib.hid (Blk.later h2.out hb3)
      have hR3 := Lib.hid (Blk.later hR2.out hb3)
      have ho3 := Lib.hid (one_later ho2.out hb3)
      have n2 : w1.heap.size ≠ b := by have := Blk.lt h2.out; omega
      clear hb3 c3 r0 r1
      generalize w1.alloc _ = w3 at *
      generalize w1.heap.size = E at *
      have r0 := hR3.out.cell 0
      have r1 := hR3.out.cell 1
      have f0 := hF.cell 0
      simp at r0 r1 f0
      have hF := Lib.hid hF
      have hF3 := hF
      refine wp_loop_rounds 4 ?_
      rw [rounds_succ]
      go_wp2_with fail
      refine (turn_any _ s t num den _ h3.out).mono ?_
      rintro e w4 ⟨rfl, hx4, hy4⟩
      have ho4 := Lib.hid (one_trans ho3.out hy4)
      have hR4 := Lib.hid (Blk.one hR3.out hy4 n1)
      have hF4 := Lib.hid (Blk.one hF3.out hy4 n2)
      have h4 := Lib.hid hx4
      clear hy4 r0 r1 f0 hx4
      have r0 := hR4.out.cell 0
      have r1 := hR4.out.cell 1
      have f0 := hF4.out.cell 1
      simp at r0 r1 f0
      go_wp2_with fail
      rw [rounds_succ]
      go_wp2_with fail
      refine (pass_any _ _ t num den q r _ h4.out hw.t0 (by simp only; omega) m1 (Bkt.kept_lo hw num den) (by have := Bkt.kept_hi hw (num := num) m4; simp only; omega) m4 m5 hq.out hr.out x0 x1 Q R hQ.out hR0.out).mono ?_
      rintro e w5 ⟨rfl, hx5, hy5⟩
      have ho5 := Lib.hid (one_trans ho4.out hy5)
      have hR5 := Lib.hid (Blk.one hR4.out hy5 n1)
      have hF5 := Lib.hid (Blk.one hF4.out hy5 n2)
      have h5 := Lib.hid hx5
      clear hy5 r0 r1 f0 hx5
      have r0 := hR5.out.cell 0
      have r1 := hR5.out.cell 1
      have f0 := hF5.out.cell 2
      simp at r0 r1 f0
      go_wp2_with fail
      rw [rounds_succ]
      go_wp2_with fail
      refine (full_any _ _ t num den _ h5.out).mono ?_
      rintro e w6 ⟨rfl, hx6, hy6⟩
      have ho6 := Lib.hid (one_trans ho5.out hy6)
      have hR6 := Lib.hid (Blk.one hR5.out hy6 n1)
      have hF6 := Lib.hid (Blk.one hF5.out hy6 n2)
      have h6 := Lib.hid hx6
      clear hy6 r0 r1 f0 hx6
      go_wp2_with fail
      rw [rounds_succ]
      go_wp2_with fail
      go_ret
      refine ⟨by simp [Bkt.fillE, ok, ht], ?_, ho6.out⟩
      have e := hfill.out
      have h6 := h6.out
      rw [show Bkt.fillS s t num den = Bkt.fill s t num den by simp [Bkt.fillS, Bkt.fillE, ok, ht], e]
      exact h6
  · cases k1 : Sat.isN t
    · go_enter Try.func19, Try.ntmps19
      go_wp2_with fail
      have hR := Blk.new w 25 #[.int .i64 num, .int .i64 den]
      have hb1 := laterA (Below.refl w.heap.size w) (.cells #[.int .i64 num, .int .i64 den] 25)
      have h1 := Blk.later H.out hb1
      have n1 : w.heap.size ≠ b := by have := Blk.lt H.out; omega
      have ho := one_later (one_refl w b) hb1
      clear hb1
      clear c0 c3
      generalize hw0 : w.alloc _ = W at *
      generalize hD : w.heap.size = D at *
      have c0 := h1.cell 0
      have c3 := h1.cell 3
      have r0 := hR.cell 0
      have r1 := hR.cell 1
      simp [cellsB] at c0 c3 r0 r1
      have h1 := Lib.hid h1
      have hR := Lib.hid hR
      have ho := Lib.hid ho
      go_wp2_with (first | (go_at_call 50; (with_reducible refine (bnone_same _ _ _ c0 hB).mono ?_); rintro e w1 ⟨rfl, rfl⟩) | (go_at_call 49; (with_reducible refine (is_same _ _).mono ?_); rintro e w1 ⟨rfl, rfl⟩) | fail)
      go_ret
      refine ⟨by simp [Bkt.fillE, ok], ?_, ho.out⟩
      rw [show Bkt.fillS s t num den = s by simp [Bkt.fillS, Bkt.fillE, ok]]
      exact h1.out
    · have k2 : Bkt.may num den = false := by rw [k1] at ok; simpa using ok
      go_enter Try.func19, Try.ntmps19
      go_wp2_with fail
      have hR := Blk.new w 25 #[.int .i64 num, .int .i64 den]
      have hb1 := laterA (Below.refl w.heap.size w) (.cells #[.int .i64 num, .int .i64 den] 25)
      have h1 := Blk.later H.out hb1
      have n1 : w.heap.size ≠ b := by have := Blk.lt H.out; omega
      have ho := one_later (one_refl w b) hb1
      clear hb1
      clear c0 c3
      generalize hw0 : w.alloc _ = W at *
      generalize hD : w.heap.size = D at *
      have c0 := h1.cell 0
      have c3 := h1.cell 3
      have r0 := hR.cell 0
      have r1 := hR.cell 1
      simp [cellsB] at c0 c3 r0 r1
      have h1 := Lib.hid h1
      have hR := Lib.hid hR
      have ho := Lib.hid ho
      go_wp2_with (first | (go_at_call 50; (with_reducible refine (bnone_same _ _ _ c0 hB).mono ?_); rintro e w1 ⟨rfl, rfl⟩) | (go_at_call 49; (with_reducible refine (is_same _ _).mono ?_); rintro e w1 ⟨rfl, rfl⟩) | fail)
      refine (may_any _ _ _).mono ?_
      rintro e w1 ⟨rfl, hbm⟩
      have h2 := Lib.hid (Blk.later h1.out hbm)
      have ho2 := Lib.hid (one_later ho.out hbm)
      have hR2 := Lib.hid (Blk.later hR.out hbm)
      have c3 := h2.out.cell 3
      have r0 := hR2.out.cell 0
      have r1 := hR2.out.cell 1
      simp [cellsB] at c3 r0 r1
      clear hbm
      go_wp2_with fail
      go_ret
      refine ⟨by simp [Bkt.fillE, ok], ?_, ho2.out⟩
      rw [show Bkt.fillS s t num den = s by simp [Bkt.fillS, Bkt.fillE, ok]]
      exact h2.out
end Go.Proofs.Ytniiemmgcjkphaa
