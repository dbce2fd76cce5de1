/-
  The document's bucket (sounderref13): New, May, Fill, Take, Copy.
-/
import Derived.Test.YtniiemmgcjkphaaBktC
namespace Go.Proofs.Ytniiemmgcjkphaa
open Go.RowKit Go.Sort

theorem rbnew_ok (B t : Int) (w : World) (h : Bkt.newOk B t = true) :
    Calls Try.prog 23 #[.int .i64 B, .int .i64 t] w fun e w' => e = .returned (.tuple #[.pointer (some ⟨w.heap.size, 0, none⟩), .int .i64 0]) ∧ RBk w' w.heap.size (Bkt.start B t) ∧ Below w.heap.size w w' := by
  unfold Bkt.newOk at h
  obtain ⟨h1, k⟩ := Bool.and_eq_true_iff.1 h
  rw [decide_eq_true_eq] at h1
  obtain ⟨b0, b1⟩ := h1
  clear h
  go_enter Try.func23, Try.ntmps23
  go_wp2_with (first | (go_at_call 55; (with_reducible refine (ris_same _ _).mono ?_); rintro e w1 ⟨rfl, rfl⟩))
  go_ret2
  exact ⟨rfl, Blk.new _ _ _, (by repeat (first | with_reducible assumption | with_reducible exact Below.refl _ _ | with_reducible exact later ‹_› ‹_› | refine later ?_ (by with_reducible assumption) | refine laterA ?_ _ | refine laterDN ?_ _ | refine laterD ?_ | refine laterR ?_ _ _))⟩

theorem rbnew_no (B t : Int) (w : World) (h : Bkt.newOk B t = false) :
    Calls Try.prog 23 #[.int .i64 B, .int .i64 t] w fun e w' => e = .returned (.tuple #[.pointer none, .int .i64 2]) ∧ Below w.heap.size w w' := by
  unfold Bkt.newOk at h
  by_cases b0 : 1 ≤ B
  · by_cases b1 : B ≤ 1073741824
    · have k : Sat.isN t = false := by simpa [b0, b1] using h
      clear h
      go_enter Try.func23, Try.ntmps23
      go_wp2_with (first | (go_at_call 55; (with_reducible refine (ris_same _ _).mono ?_); rintro e w1 ⟨rfl, rfl⟩))
      go_ret2
      exact ⟨rfl, (by repeat (first | with_reducible assumption | with_reducible exact Below.refl _ _ | with_reducible exact later ‹_› ‹_› | refine later ?_ (by with_reducible assumption) | refine laterA ?_ _ | refine laterDN ?_ _ | refine laterD ?_ | refine laterR ?_ _ _))⟩
    · clear h
      go_enter Try.func23, Try.ntmps23
      go_wp2
      go_ret2
      exact ⟨rfl, (by repeat (first | with_reducible assumption | with_reducible exact Below.refl _ _ | with_reducible exact later ‹_› ‹_› | refine later ?_ (by with_reducible assumption) | refine laterA ?_ _ | refine laterDN ?_ _ | refine laterD ?_ | refine laterR ?_ _ _))⟩
  · clear h
    go_enter Try.func23, Try.ntmps23
    go_wp2
    go_ret2
    exact ⟨rfl, (by repeat (first | with_reducible assumption | with_reducible exact Below.refl _ _ | with_reducible exact later ‹_› ‹_› | refine later ?_ (by with_reducible assumption) | refine laterA ?_ _ | refine laterDN ?_ _ | refine laterD ?_ | refine laterR ?_ _ _))⟩

theorem rmay_any (num den : Int) (w : World) :
    Calls Try.prog 56 #[.agg #[.int .i64 num, .int .i64 den]] w fun e w' => e = .returned (.bool (Bkt.may num den)) ∧ Below w.heap.size w w' := by
  by_cases h1 : 0 ≤ num
  · by_cases h2 : num ≤ 8796093022208
    · by_cases h3 : 1 ≤ den
      · go_enter Try.func56, Try.ntmps56
        go_wp2
        go_ret
        exact ⟨rb (by simp [Bkt.may, h1, h2, h3]), (by repeat (first | with_reducible assumption | with_reducible exact Below.refl _ _ | with_reducible exact later ‹_› ‹_› | refine later ?_ (by with_reducible assumption) | refine laterA ?_ _ | refine laterDN ?_ _ | refine laterD ?_ | refine laterR ?_ _ _))⟩
      · have e : Bkt.may num den = false := by simp [Bkt.may, h3]
        rw [e]
        go_enter Try.func56, Try.ntmps56
        go_wp2
        go_ret
        exact ⟨rfl, (by repeat (first | with_reducible assumption | with_reducible exact Below.refl _ _ | with_reducible exact later ‹_› ‹_› | refine later ?_ (by with_reducible assumption) | refine laterA ?_ _ | refine laterDN ?_ _ | refine laterD ?_ | refine laterR ?_ _ _))⟩
    · have e : Bkt.may num den = false := by simp [Bkt.may, h2]
      rw [e]
      go_enter Try.func56, Try.ntmps56
      go_wp2
      go_ret
      exact ⟨rfl, (by repeat (first | with_reducible assumption | with_reducible exact Below.refl _ _ | with_reducible exact later ‹_› ‹_› | refine later ?_ (by with_reducible assumption) | refine laterA ?_ _ | refine laterDN ?_ _ | refine laterD ?_ | refine laterR ?_ _ _))⟩
  · have e : Bkt.may num den = false := by simp [Bkt.may, h1]
    rw [e]
    go_enter Try.func56, Try.ntmps56
    go_wp2
    go_ret
    exact ⟨rfl, (by repeat (first | with_reducible assumption | with_reducible exact Below.refl _ _ | with_reducible exact later ‹_› ‹_› | refine later ?_ (by with_reducible assumption) | refine laterA ?_ _ | refine laterDN ?_ _ | refine laterD ?_ | refine laterR ?_ _ _))⟩

theorem rtake_any (b : Nat) (s : Bkt.St) (k : Int) (w : World) (h : RBk w b s) (hw : Bkt.wf s) :
    Calls Try.prog 25 #[.pointer (some ⟨b, 0, none⟩), .int .i64 k] w fun e w' => e = .returned (.int .i64 (Bkt.takeE s k)) ∧ RBk w' b (Bkt.takeS s k) ∧ w.grownBy w' (some b) := by
  have c1 := h.cell 1
  have z1 := h.frozen 1
  simp [cellsB] at c1
  have H := Lib.hid h
  clear h
  have n0 := hw.n0
  have n1 := hw.n1
  have n2 := hw.B1
  have e0 : Bkt.takeE s k = if k < 0 then 2 else if s.n < k then 5 else 0 := rfl
  by_cases h0 : k < 0
  · rw [if_pos h0] at e0
    have e1 : Bkt.takeS s k = s := by simp [Bkt.takeS, e0]
    rw [e0, e1]
    clear e0 e1
    go_enter Try.func25, Try.ntmps25
    go_wp2
    go_ret
    exact ⟨rfl, H.out, one_refl _ _⟩
  · rw [if_neg h0] at e0
    by_cases h1 : s.n < k
    · rw [if_pos h1] at e0
      have e1 : Bkt.takeS s k = s := by simp [Bkt.takeS, e0]
      rw [e0, e1]
      clear e0 e1
      go_enter Try.func25, Try.ntmps25
      go_wp2
      go_ret
      exact ⟨rfl, H.out, one_refl _ _⟩
    · rw [if_neg h1] at e0
      have e1 : Bkt.takeS s k = { s with n := s.n - k } := by simp [Bkt.takeS, e0]
      rw [e0, e1]
      clear e0 e1
      go_enter Try.func25, Try.ntmps25
      go_wp2
      go_ret
      exact ⟨rfl, Blk.set_ H.out 1 _, one_set (one_refl _ _) _ _⟩

theorem rbcopy_any (b : Nat) (s : Bkt.St) (w : World) (h : RBk w b s) :
    Calls Try.prog 28 #[.pointer (some ⟨b, 0, none⟩)] w fun e w' => e = .returned (.pointer (some ⟨w.heap.size, 0, none⟩)) ∧ RBk w' w.heap.size s ∧ Below w.heap.size w w' := by
  have c0 := h.cell 0
  have c1 := h.cell 1
  have c2 := h.cell 2
  have c3 := h.cell 3
  have c4 := h.cell 4
  have c5 := h.cell 5
  simp [cellsB] at c0 c1 c2 c3 c4 c5
  clear h
  go_enter Try.func28, Try.ntmps28
  go_wp2
  go_ret
  exact ⟨rfl, Blk.new _ _ _, (by repeat (first | with_reducible assumption | with_reducible exact Below.refl _ _ | with_reducible exact later ‹_› ‹_› | refine later ?_ (by with_reducible assumption) | refine laterA ?_ _ | refine laterDN ?_ _ | refine laterD ?_ | refine laterR ?_ _ _))⟩

namespace Bkt
theorem carry {q r K den : Int} (r0 : 0 ≤ r) (r1 : r < den) (k0 : 0 ≤ K) (k1 : K < den) (q0 : 0 ≤ q) (q1 : q ≤ 9007199254740991) :
    (if den ≤ r + K then Sat.add q 1 else q) = Sat.add q ((r + K) / den) ∧ (if den ≤ r + K then r + K - den else r + K) = (r + K) % den := by
  by_cases h : den ≤ r + K
  · have e : r + K = (r + K - den) + 1 * den := by omega
    have g1 : (r + K) / den = 1 := by rw [e, Int.add_mul_ediv_right _ _ (by omega), Int.ediv_eq_zero_of_lt (by omega) (by omega)]; omega
    have g2 : (r + K) % den = r + K - den := by rw [e, Int.add_mul_emod_self_right, Int.emod_eq_of_lt (by omega) (by omega)]; omega
    rw [if_pos h, if_pos h, g1, g2]; exact ⟨rfl, rfl⟩
  · rw [if_neg h, if_neg h, Int.ediv_eq_zero_of_lt (by omega) (by omega), Int.emod_eq_of_lt (by omega) (by omega), Sat.add_0, Sat.num_id q0 q1]; exact ⟨rfl, rfl⟩
end Bkt

theorem eq_rate2 (x0 x1 y0 y1 : Int) (d : Nat) (w : World) : (Op.equalIn (d + 2) 49 (.agg #[.int .i64 x0, .int .i64 x1]) (.agg #[.int .i64 y0, .int .i64 y1])).run Try.prog w = .ok (x0 == y0 && x1 == y1) w := by
  have e3 : ∀ (a b : Int) (w : World), (Op.equalIn (d + 1) 3 (.int .i64 a) (.int .i64 b)).run Try.prog w = .ok (a == b) w := fun a b w => run_equalIn_int w d 3 .i64 .i64 a b Try.underlying3
  have hs : ∀ w, (sizeOf 3).run Try.prog w = .ok 1 w := Try.sizeOf3
  have ha : ∀ w, (isAgg 3).run Try.prog w = .ok false w := Try.isAgg3
  rw [Op.equalIn]
  simp only [Sem.run_bind, run_underlying Try.underlying49, Result.andThen_ok]
  simp [go_sem, hs, e3, ha]
  cases h0 : (x0 == y0) <;> cases h1 : (x1 == y1) <;> simp_all

set_option maxHeartbeats 4000000 in
set_option maxRecDepth 100000 in
theorem rfill_any (b : Nat) (s : Bkt.St) (t num den : Int) (w : World) (h : RBk w b s) (hw : Bkt.wf s) :
    Calls Try.prog 24 #[.pointer (some ⟨b, 0, none⟩), .int .i64 t, .agg #[.int .i64 num, .int .i64 den]] w fun e w' => e = .returned (.int .i64 (Bkt.fillE s t num den)) ∧ RBk w' b (Bkt.fillS s t num den) ∧ w.grownBy w' (some b) := by
  have H := Lib.hid h
  clear h
  by_cases ok : (Sat.isN t && Bkt.may num den) = true
  · obtain ⟨k1, k2⟩ := Bool.and_eq_true_iff.1 ok
    have m0 := (Sat.isN_iff t).1 k1
    obtain ⟨m2, m3, m4, m5⟩ := (Bkt.may_iff num den).1 k2
    obtain ⟨_, m1⟩ := m0
    by_cases ht : t < s.t
    · have htl := ht
      go_enter Try.func24, Try.ntmps24
      go_wp2_with (first | (go_at_call 55; (with_reducible refine (ris_same _ _).mono ?_); rintro e w1 ⟨rfl, rfl⟩) | fail)
      have hR := Blk.new w 49 #[.int .i64 num, .int .i64 den]
      have hb1 := laterA (Below.refl w.heap.size w) (.cells #[.int .i64 num, .int .i64 den] 49)
      have h1 := Blk.later H.out hb1
      have n1 : w.heap.size ≠ b := by have := Blk.lt H.out; omega
      have ho := one_later (one_refl w b) hb1
      clear hb1
      generalize hw0 : w.alloc _ = W at *
      generalize hD : w.heap.size = D at *
      have h1 := Lib.hid h1
      have hR := Lib.hid hR
      have ho := Lib.hid ho
      have r0 := hR.out.cell 0
      have r1 := hR.out.cell 1
      simp at r0 r1
      go_wp2_with fail
      refine (rmay_any _ _ _).mono ?_
      rintro e w1 ⟨rfl, hbm⟩
      have h2 := Lib.hid (Blk.later h1.out hbm)
      have ho2 := Lib.hid (one_later ho.out hbm)
      have hR2 := Lib.hid (Blk.later hR.out hbm)
      clear hbm r0 r1
      have r0 := hR2.out.cell 0
      have r1 := hR2.out.cell 1
      have c2 := h2.out.cell 2
      have c3 := h2.out.cell 3
      have c4 := h2.out.cell 4
      have c5 := h2.out.cell 5
      simp [cellsB] at c2 c3 c4 c5 r0 r1
      go_wp2_with fail
      go_ret
      refine ⟨by simp [Bkt.fillE, k1, k2, htl], ?_, ho2.out⟩
      rw [show Bkt.fillS s t num den = s by simp [Bkt.fillS, Bkt.fillE, k1, k2, htl]]
      exact h2.out
    · obtain ⟨q, hq⟩ : ∃ q, Sat.quo (t - s.t) num den = q := ⟨_, rfl⟩
      obtain ⟨r, hr⟩ : ∃ r, Sat.rest (t - s.t) num den = r := ⟨_, rfl⟩
      obtain ⟨x0, x1, hfill⟩ := Bkt.fill_code hw (by omega) m1 m2 m3 m4 m5 hq hr
      have hM := Lib.hid (rmulrest_any (t - s.t) num den)
      rw [hq, hr] at hM
      have hfill := Lib.hid hfill
      have hq := Lib.hid hq
      have hr := Lib.hid hr
      by_cases hk : num = s.num ∧ den = s.den
      · obtain ⟨rfl, rfl⟩ := hk
        have eK : Bkt.kept s s.num s.den = s.r := by simp [Bkt.kept]
        have t0 := hw.t0
        have kr0 := hw.r0
        have kr1 := Bkt.kept_hi hw (num := s.num) m4
        rw [eK] at kr1
        have ht' : s.t ≤ t := by omega
        go_enter Try.func24, Try.ntmps24
        go_wp2_with (first | (go_at_call 55; (with_reducible refine (ris_same _ _).mono ?_); rintro e w1 ⟨rfl, rfl⟩) | fail)
        have hR := Blk.new w 49 #[.int .i64 s.num, .int .i64 s.den]
        have hb1 := laterA (Below.refl w.heap.size w) (.cells #[.int .i64 s.num, .int .i64 s.den] 49)
        have h1 := Blk.later H.out hb1
        have n1 : w.heap.size ≠ b := by have := Blk.lt H.out; omega
        have ho := one_later (one_refl w b) hb1
        clear hb1
        generalize hw0 : w.alloc _ = W at *
        generalize hD : w.heap.size = D at *
        have h1 := Lib.hid h1
        have hR := Lib.hid hR
        have ho := Lib.hid ho
        have r0 := hR.out.cell 0
        have r1 := hR.out.cell 1
        simp at r0 r1
        go_wp2_with fail
        refine (rmay_any _ _ _).mono ?_
        rintro e w1 ⟨rfl, hbm⟩
        have h2 := Lib.hid (Blk.later h1.out hbm)
        have ho2 := Lib.hid (one_later ho.out hbm)
        have hR2 := Lib.hid (Blk.later hR.out hbm)
        clear hbm r0 r1
        have r0 := hR2.out.cell 0
        have r1 := hR2.out.cell 1
        have c2 := h2.out.cell 2
        have c3 := h2.out.cell 3
        have c4 := h2.out.cell 4
        have c5 := h2.out.cell 5
        simp [cellsB] at c2 c3 c4 c5 r0 r1
        go_wp2_with fail
        go_quiet (fail)
        go_wp2_with fail
        have h3 := Lib.hid (Blk.drewN h2.out nq)
        have hR3 := Lib.hid (Blk.drewN hR2.out nq)
        have ho3 := Lib.hid (one_drewN ho2.out nq)
        generalize w1.drewN nq = w2 at *
        clear c2 c3 c4 c5 r0 r1
        have c3 := h3.out.cell 3
        have r0 := hR3.out.cell 0
        have r1 := hR3.out.cell 1
        simp [cellsB] at c3 r0 r1
        have d3 := fun d os => cell_regrown c3 d os
        have e0 := fun d os => cell_regrown r0 d os
        have e1 := fun d os => cell_regrown r1 d os
        clear c3 r0 r1
        refine wp_region_quiet_below (by kernel_rfl) (by kernel_rfl) ?_
        repeat (go_big_quiet_step ((first | (go_at_call 57; with_reducible exact Calls.regrown_of (hM.out _)))))
        refine wpQuiet_nil ?_
        intro wq hw'
        obtain ⟨⟨dq, osq⟩, hw''⟩ := hw'
        have hbq := regrown_below hw''
        clear hw'' dq osq
        clear d3 e0 e1
        have h4 := Lib.hid (Blk.later h3.out hbq)
        have hR4 := Lib.hid (Blk.later hR3.out hbq)
        have ho4 := Lib.hid (one_later ho3.out hbq)
        clear hbq
        have r1 := hR4.out.cell 1
        simp at r1
        have c0 := h4.out.cell 0
        have c1 := h4.out.cell 1
        have c2 := h4.out.cell 2
        have c3 := h4.out.cell 3
        have c4 := h4.out.cell 4
        have c5 := h4.out.cell 5
        have z1 := h4.out.frozen 1
        have z2 := h4.out.frozen 2
        have z3 := h4.out.frozen 3
        have z4 := h4.out.frozen 4
        have z5 := h4.out.frozen 5
        have r0 := hR4.out.cell 0
        simp [cellsB] at c0 c1 c2 c3 c4 c5 r0
        go_wp2_with (first | (go_at_call 58; (with_reducible refine (radd_same _ _ _).mono ?_); rintro e w5 ⟨rfl, rfl⟩) | fail)
        have h5 := ((((Blk.set_ h4.out 4 (.int .i64 s.num)).set_ 5 (.int .i64 s.den)).set_ 3 (.int .i64 t)).set_ 1 (.int .i64 (Sat.add s.n (Sat.add q ((r + s.r) / s.den))))).set_ 2 (.int .i64 ((r + s.r) % s.den))
        have ho5 := Lib.hid (one_set (one_set (one_set (one_set (one_set ho4.out 4 (.int .i64 s.num)) 5 (.int .i64 s.den)) 3 (.int .i64 t)) 1 (.int .i64 (Sat.add s.n (Sat.add q ((r + s.r) / s.den))))) 2 (.int .i64 ((r + s.r) % s.den)))
        simp [cellsB] at h5
        clear c0 c1 c2 c3 c4 c5 z1 z2 z3 z4 z5 r0 r1
        generalize World.setCell _ _ _ = w6 at *
        have c0 := h5.cell 0
        have c1 := h5.cell 1
        have c2 := h5.cell 2
        have z1 := h5.frozen 1
        have z2 := h5.frozen 2
        simp at c0 c1 c2
        have h5 := Lib.hid h5
        have hS := hfill.out
        rw [eK] at hS
        obtain ⟨g1, g2⟩ := Bkt.carry x0 x1 kr0 kr1 (hq.out ▸ Sat.quo_lo _ _ _) (hq.out ▸ Sat.quo_hi _ _ _)
        have hS := Lib.hid (hS _ _ g1 g2)
        clear g1 g2 eK
        have eE : Bkt.fillE s t s.num s.den = 0 := by simp [Bkt.fillE, ok, ht]
        have eS : Bkt.fillS s t s.num s.den = Bkt.fill s t s.num s.den := by simp [Bkt.fillS, eE]
        rw [← eS] at hS
        have eE := Lib.hid eE
        clear eS
        generalize Sat.add s.n (Sat.add q ((r + s.r) / s.den)) = T at *
        generalize (r + s.r) % s.den = R at *
        by_cases hT : s.B ≤ T
        · have hS := hS.out
          rw [if_pos hT] at hS
          have hS := Lib.hid hS
          go_quiet (fail)
          go_wp2
          go_ret
          refine ⟨by simp [eE.out], ?_⟩
          try rw [hS.out]
          exact ⟨((Blk.drewN h5.out _).set_ 1 _).set_ 2 _, one_set (one_set (one_drewN ho5.out _) _ _) _ _⟩
        · have hS := hS.out
          rw [if_neg hT] at hS
          have hS := Lib.hid hS
          go_quiet (fail)
          go_wp2
          go_ret
          refine ⟨by simp, ?_⟩
          try rw [hS.out]
          exact ⟨Blk.drewN h5.out _, one_drewN ho5.out _⟩
      · have eK : Bkt.kept s num den = 0 := by simp [Bkt.kept, hk]
        have t0 := hw.t0
        have q2 := eq_rate2 num den s.num s.den
        have q1 : (num == s.num && den == s.den) = false := by simpa using hk
        clear hk
        have ht' : s.t ≤ t := by omega
        go_enter Try.func24, Try.ntmps24
        go_wp2_with (first | (go_at_call 55; (with_reducible refine (ris_same _ _).mono ?_); rintro e w1 ⟨rfl, rfl⟩) | fail)
        have hR := Blk.new w 49 #[.int .i64 num, .int .i64 den]
        have hb1 := laterA (Below.refl w.heap.size w) (.cells #[.int .i64 num, .int .i64 den] 49)
        have h1 := Blk.later H.out hb1
        have n1 : w.heap.size ≠ b := by have := Blk.lt H.out; omega
        have ho := one_later (one_refl w b) hb1
        clear hb1
        generalize hw0 : w.alloc _ = W at *
        generalize hD : w.heap.size = D at *
        have h1 := Lib.hid h1
        have hR := Lib.hid hR
        have ho := Lib.hid ho
        have r0 := hR.out.cell 0
        have r1 := hR.out.cell 1
        simp at r0 r1
        go_wp2_with fail
        refine (rmay_any _ _ _).mono ?_
        rintro e w1 ⟨rfl, hbm⟩
        have h2 := Lib.hid (Blk.later h1.out hbm)
        have ho2 := Lib.hid (one_later ho.out hbm)
        have hR2 := Lib.hid (Blk.later hR.out hbm)
        clear hbm r0 r1
        have r0 := hR2.out.cell 0
        have r1 := hR2.out.cell 1
        have c2 := h2.out.cell 2
        have c3 := h2.out.cell 3
        have c4 := h2.out.cell 4
        have c5 := h2.out.cell 5
        simp [cellsB] at c2 c3 c4 c5 r0 r1
        go_wp2_with fail
        go_quiet (fail)
        go_wp2_with fail
        have h3 := Lib.hid (Blk.drewN h2.out nq)
        have hR3 := Lib.hid (Blk.drewN hR2.out nq)
        have ho3 := Lib.hid (one_drewN ho2.out nq)
        generalize w1.drewN nq = w2 at *
        clear c2 c3 c4 c5 r0 r1
        have c3 := h3.out.cell 3
        have r0 := hR3.out.cell 0
        have r1 := hR3.out.cell 1
        simp [cellsB] at c3 r0 r1
        have d3 := fun d os => cell_regrown c3 d os
        have e0 := fun d os => cell_regrown r0 d os
        have e1 := fun d os => cell_regrown r1 d os
        clear c3 r0 r1
        refine wp_region_quiet_below (by kernel_rfl) (by kernel_rfl) ?_
        repeat (go_big_quiet_step ((first | (go_at_call 57; with_reducible exact Calls.regrown_of (hM.out _)))))
        refine wpQuiet_nil ?_
        intro wq hw'
        obtain ⟨⟨dq, osq⟩, hw''⟩ := hw'
        have hbq := regrown_below hw''
        clear hw'' dq osq
        clear d3 e0 e1
        have h4 := Lib.hid (Blk.later h3.out hbq)
        have hR4 := Lib.hid (Blk.later hR3.out hbq)
        have ho4 := Lib.hid (one_later ho3.out hbq)
        clear hbq
        have r1 := hR4.out.cell 1
        simp at r1
        have c0 := h4.out.cell 0
        have c1 := h4.out.cell 1
        have c2 := h4.out.cell 2
        have c3 := h4.out.cell 3
        have c4 := h4.out.cell 4
        have c5 := h4.out.cell 5
        have z1 := h4.out.frozen 1
        have z2 := h4.out.frozen 2
        have z3 := h4.out.frozen 3
        have z4 := h4.out.frozen 4
        have z5 := h4.out.frozen 5
        have r0 := hR4.out.cell 0
        simp [cellsB] at c0 c1 c2 c3 c4 c5 r0
        go_wp2_with (first | (go_at_call 58; (with_reducible refine (radd_same _ _ _).mono ?_); rintro e w5 ⟨rfl, rfl⟩) | fail)
        have h5 := ((((Blk.set_ h4.out 4 (.int .i64 num)).set_ 5 (.int .i64 den)).set_ 3 (.int .i64 t)).set_ 1 (.int .i64 (Sat.add s.n (Sat.add q (r / den))))).set_ 2 (.int .i64 (r % den))
        have ho5 := Lib.hid (one_set (one_set (one_set (one_set (one_set ho4.out 4 (.int .i64 num)) 5 (.int .i64 den)) 3 (.int .i64 t)) 1 (.int .i64 (Sat.add s.n (Sat.add q (r / den))))) 2 (.int .i64 (r % den)))
        simp [cellsB] at h5
        clear c0 c1 c2 c3 c4 c5 z1 z2 z3 z4 z5 r0 r1
        generalize World.setCell _ _ _ = w6 at *
        have c0 := h5.cell 0
        have c1 := h5.cell 1
        have c2 := h5.cell 2
        have z1 := h5.frozen 1
        have z2 := h5.frozen 2
        simp at c0 c1 c2
        have h5 := Lib.hid h5
        have hS := hfill.out
        rw [eK] at hS
        obtain ⟨g1, g2⟩ := Bkt.carry (K := 0) x0 x1 (by omega) (by omega) (hq.out ▸ Sat.quo_lo _ _ _) (hq.out ▸ Sat.quo_hi _ _ _)
        have hS := hS _ _ g1 g2
        rw [Int.add_zero] at hS
        have hS := Lib.hid hS
        clear g1 g2 eK
        have eE : Bkt.fillE s t num den = 0 := by simp [Bkt.fillE, ok, ht]
        have eS : Bkt.fillS s t num den = Bkt.fill s t num den := by simp [Bkt.fillS, eE]
        rw [← eS] at hS
        have eE := Lib.hid eE
        clear eS
        generalize Sat.add s.n (Sat.add q (r / den)) = T at *
        generalize r % den = R at *
        by_cases hT : s.B ≤ T
        · have hS := hS.out
          rw [if_pos hT] at hS
          have hS := Lib.hid hS
          go_quiet (fail)
          go_wp2
          go_ret
          refine ⟨by simp [eE.out], ?_⟩
          try rw [hS.out]
          exact ⟨((Blk.drewN h5.out _).set_ 1 _).set_ 2 _, one_set (one_set (one_drewN ho5.out _) _ _) _ _⟩
        · have hS := hS.out
          rw [if_neg hT] at hS
          have hS := Lib.hid hS
          go_quiet (fail)
          go_wp2
          go_ret
          refine ⟨by simp, ?_⟩
          try rw [hS.out]
          exact ⟨Blk.drewN h5.out _, one_drewN ho5.out _⟩
  · cases k1 : Sat.isN t
    · go_enter Try.func24, Try.ntmps24
      go_wp2_with (first | (go_at_call 55; (with_reducible refine (ris_same _ _).mono ?_); rintro e w1 ⟨rfl, rfl⟩) | fail)
      have hR := Blk.new w 49 #[.int .i64 num, .int .i64 den]
      have hb1 := laterA (Below.refl w.heap.size w) (.cells #[.int .i64 num, .int .i64 den] 49)
      have h1 := Blk.later H.out hb1
      have n1 : w.heap.size ≠ b := by have := Blk.lt H.out; omega
      have ho := one_later (one_refl w b) hb1
      clear hb1
      generalize hw0 : w.alloc _ = W at *
      generalize hD : w.heap.size = D at *
      have h1 := Lib.hid h1
      have hR := Lib.hid hR
      have ho := Lib.hid ho
      have r0 := hR.out.cell 0
      have r1 := hR.out.cell 1
      simp at r0 r1
      go_wp2_with fail
      go_ret
      refine ⟨by simp [Bkt.fillE, ok], ?_, ho.out⟩
      rw [show Bkt.fillS s t num den = s by simp [Bkt.fillS, Bkt.fillE, ok]]
      exact h1.out
    · have k2 : Bkt.may num den = false := by rw [k1] at ok; simpa using ok
      go_enter Try.func24, Try.ntmps24
      go_wp2_with (first | (go_at_call 55; (with_reducible refine (ris_same _ _).mono ?_); rintro e w1 ⟨rfl, rfl⟩) | fail)
      have hR := Blk.new w 49 #[.int .i64 num, .int .i64 den]
      have hb1 := laterA (Below.refl w.heap.size w) (.cells #[.int .i64 num, .int .i64 den] 49)
      have h1 := Blk.later H.out hb1
      have n1 : w.heap.size ≠ b := by have := Blk.lt H.out; omega
      have ho := one_later (one_refl w b) hb1
      clear hb1
      generalize hw0 : w.alloc _ = W at *
      generalize hD : w.heap.size = D at *
      have h1 := Lib.hid h1
      have hR := Lib.hid hR
      have ho := Lib.hid ho
      have r0 := hR.out.cell 0
      have r1 := hR.out.cell 1
      simp at r0 r1
      go_wp2_with fail
      refine (rmay_any _ _ _).mono ?_
      rintro e w1 ⟨rfl, hbm⟩
      have h2 := Lib.hid (Blk.later h1.out hbm)
      have ho2 := Lib.hid (one_later ho.out hbm)
      have hR2 := Lib.hid (Blk.later hR.out hbm)
      clear hbm r0 r1
      have r0 := hR2.out.cell 0
      have r1 := hR2.out.cell 1
      have c2 := h2.out.cell 2
      have c3 := h2.out.cell 3
      have c4 := h2.out.cell 4
      have c5 := h2.out.cell 5
      simp [cellsB] at c2 c3 c4 c5 r0 r1
      go_wp2_with fail
      go_ret
      refine ⟨by simp [Bkt.fillE, ok], ?_, ho2.out⟩
      rw [show Bkt.fillS s t num den = s by simp [Bkt.fillS, Bkt.fillE, ok]]
      exact h2.out

end Go.Proofs.Ytniiemmgcjkphaa
