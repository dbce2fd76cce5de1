/-
  The document's bucket (sounderref13): has, When.
-/
import Derived.Test.YtniiemmgcjkphaaBktD
import Derived.Test.YtniiemmgcjkphaaBktV
namespace Go.Proofs.Ytniiemmgcjkphaa
open Go.RowKit Go.Sort

theorem one_old {B : Nat} {a w w' : World} {b : Nat} (h : Below B a w) (k : w.grownBy w' (some b)) (hB : B ≤ b) (hs : B ≤ w.heap.size) : Below B a w' := h.trans (one_below k hB hs)
theorem old_later {B : Nat} {a w w' : World} (h : Below B a w) (k : Below w.heap.size w w') (hs : B ≤ w.heap.size) : Below B a w' := h.trans (k.mono hs)

set_option maxHeartbeats 1000000 in
theorem rhas_any (b : Nat) (s : Bkt.St) (k t num den : Int) (w : World) (h : RBk w b s) (hw : Bkt.wf s) :
    Calls Try.prog 63 #[.pointer (some ⟨b, 0, none⟩), .int .i64 k, .agg #[.int .i64 num, .int .i64 den], .int .i64 t] w fun e w' => e = .returned (.bool (decide (k ≤ (Bkt.fillS s t num den).n))) ∧ Below w.heap.size w w' := by
  have H := Lib.hid h
  clear h
  go_enter Try.func63, Try.ntmps63
  go_wp2_with fail
  have hR := Blk.new w 49 #[.int .i64 num, .int .i64 den]
  have hb1 := laterA (Below.refl w.heap.size w) (.cells #[.int .i64 num, .int .i64 den] 49)
  have h1 := Blk.later H.out hb1
  generalize hw0 : w.alloc _ = W at *
  have h1 := Lib.hid h1
  have hR := Lib.hid hR
  have hb1 := Lib.hid hb1
  refine (rbcopy_any b s _ h1.out).mono ?_
  rintro e w1 ⟨rfl, hc, hb2⟩
  have hC := Lib.hid hc
  have hR2 := Lib.hid (Blk.later hR.out hb2)
  have hbw := Lib.hid (later hb1.out hb2)
  clear hc hb2
  have hCs : w.heap.size ≤ W.heap.size := hb1.out.size
  generalize W.heap.size = C at *
  have r0 := hR2.out.cell 0
  have r1 := hR2.out.cell 1
  simp at r0 r1
  go_wp2_with fail
  refine (rfill_any C s t num den _ hC.out hw).mono ?_
  rintro e w2 ⟨rfl, hc, ho⟩
  have c1 := hc.cell 1
  simp [cellsB] at c1
  have hbz := one_old hbw.out ho hCs hbw.out.size
  go_wp2_with fail
  go_ret
  exact ⟨rfl, hbz⟩

set_option maxHeartbeats 4000000 in
set_option maxRecDepth 100000 in
theorem rwhen_any (b : Nat) (s : Bkt.St) (k num den : Int) (w : World) (h : RBk w b s) (hw : Bkt.wf s) :
    Calls Try.prog 27 #[.pointer (some ⟨b, 0, none⟩), .int .i64 k, .agg #[.int .i64 num, .int .i64 den]] w fun e w' => e = .returned (.int .i64 (Bkt.when_ s k num den)) ∧ Below w.heap.size w w' := by
  have hb1 := laterA (Below.refl w.heap.size w) (.cells #[.int .i64 num, .int .i64 den] 49)
  have hR := Blk.new w 49 #[.int .i64 num, .int .i64 den]
  have h1 := Blk.later h hb1
  clear h
  generalize hw0 : w.alloc _ = W at *
  have hb1 := Lib.hid hb1
  have h1 := Lib.hid h1
  have hR := Lib.hid hR
  have c0 := h1.out.cell 0
  have c1 := h1.out.cell 1
  have c3 := h1.out.cell 3
  have r0 := hR.out.cell 0
  have r1 := hR.out.cell 1
  simp [cellsB] at c0 c1 c3 r0 r1
  by_cases k0 : k < 0
  · rw [show Bkt.when_ s k num den = -1 by simp [Bkt.when_, k0]]
    go_enter Try.func27, Try.ntmps27
    go_wp2_with fail
    go_ret
    exact ⟨rfl, hb1.out⟩
  · by_cases kB : s.B < k
    · rw [show Bkt.when_ s k num den = -1 by simp [Bkt.when_, kB]]
      go_enter Try.func27, Try.ntmps27
      go_wp2_with fail
      go_ret
      exact ⟨rfl, hb1.out⟩
    · cases hm : Bkt.may num den
      · rw [show Bkt.when_ s k num den = -1 by simp [Bkt.when_, hm]]
        go_enter Try.func27, Try.ntmps27
        go_wp2_with fail
        refine (rmay_any _ _ _).mono ?_
        rintro e w1 ⟨rfl, hbm⟩
        have h2 := Lib.hid (Blk.later h1.out hbm)
        have hR2 := Lib.hid (Blk.later hR.out hbm)
        have hb2 := Lib.hid (later hb1.out hbm)
        clear hbm c0 c1 c3 r0 r1
        have c0 := h2.out.cell 0
        have c1 := h2.out.cell 1
        have c3 := h2.out.cell 3
        have r0 := hR2.out.cell 0
        have r1 := hR2.out.cell 1
        simp [cellsB] at c0 c1 c3 r0 r1
        go_wp2_with fail
        go_ret
        exact ⟨rfl, hb2.out⟩
      · obtain ⟨ha, hr⟩ | ⟨ha, hk, hr⟩ | ⟨ha, hk, V, hr, v0, v1, hi⟩ := Bkt.when_cases hw (show 0 ≤ k by omega) (show k ≤ s.B by omega) hm
        · rw [hr]
          clear hr
          have e : decide (k ≤ (Bkt.fillS s 9007199254740991 num den).n) = false := by simpa using ha
          have e := Lib.hid e
          clear ha
          go_enter Try.func27, Try.ntmps27
          go_wp2_with fail
          refine (rmay_any _ _ _).mono ?_
          rintro e w1 ⟨rfl, hbm⟩
          have h2 := Lib.hid (Blk.later h1.out hbm)
          have hR2 := Lib.hid (Blk.later hR.out hbm)
          have hb2 := Lib.hid (later hb1.out hbm)
          clear hbm c0 c1 c3 r0 r1
          have c0 := h2.out.cell 0
          have c1 := h2.out.cell 1
          have c3 := h2.out.cell 3
          have r0 := hR2.out.cell 0
          have r1 := hR2.out.cell 1
          simp [cellsB] at c0 c1 c3 r0 r1
          go_wp2_with fail
          refine (rhas_any b s k 9007199254740991 num den _ h2.out hw).mono ?_
          rintro e w2 ⟨rfl, hbm⟩
          have h3 := Lib.hid (Blk.later h2.out hbm)
          have hR3 := Lib.hid (Blk.later hR2.out hbm)
          have hb3 := Lib.hid (later hb2.out hbm)
          clear hbm c0 c1 c3 r0 r1
          have c0 := h3.out.cell 0
          have c1 := h3.out.cell 1
          have c3 := h3.out.cell 3
          have r0 := hR3.out.cell 0
          have r1 := hR3.out.cell 1
          simp [cellsB] at c0 c1 c3 r0 r1
          rw [e.out]
          go_wp2_with fail
          go_ret
          exact ⟨rfl, hb3.out⟩
        · rw [hr]
          clear hr
          have e : decide (k ≤ (Bkt.fillS s 9007199254740991 num den).n) = true := by simpa using ha
          have e := Lib.hid e
          clear ha
          go_enter Try.func27, Try.ntmps27
          go_wp2_with fail
          refine (rmay_any _ _ _).mono ?_
          rintro e w1 ⟨rfl, hbm⟩
          have h2 := Lib.hid (Blk.later h1.out hbm)
          have hR2 := Lib.hid (Blk.later hR.out hbm)
          have hb2 := Lib.hid (later hb1.out hbm)
          clear hbm c0 c1 c3 r0 r1
          have c0 := h2.out.cell 0
          have c1 := h2.out.cell 1
          have c3 := h2.out.cell 3
          have r0 := hR2.out.cell 0
          have r1 := hR2.out.cell 1
          simp [cellsB] at c0 c1 c3 r0 r1
          go_wp2_with fail
          refine (rhas_any b s k 9007199254740991 num den _ h2.out hw).mono ?_
          rintro e w2 ⟨rfl, hbm⟩
          have h3 := Lib.hid (Blk.later h2.out hbm)
          have hR3 := Lib.hid (Blk.later hR2.out hbm)
          have hb3 := Lib.hid (later hb2.out hbm)
          clear hbm c0 c1 c3 r0 r1
          have c0 := h3.out.cell 0
          have c1 := h3.out.cell 1
          have c3 := h3.out.cell 3
          have r0 := hR3.out.cell 0
          have r1 := hR3.out.cell 1
          simp [cellsB] at c0 c1 c3 r0 r1
          rw [e.out]
          go_wp2_with fail
          go_ret
          exact ⟨rfl, hb3.out⟩
        · rw [hr]
          clear hr
          have e : decide (k ≤ (Bkt.fillS s 9007199254740991 num den).n) = true := by simpa using ha
          have e := Lib.hid e
          have hi := Lib.hid hi
          clear ha
          have t0 := hw.t0
          have hkf : decide (k ≤ s.n) = false := by simp; omega
          go_enter Try.func27, Try.ntmps27
          go_wp2_with fail
          refine (rmay_any _ _ _).mono ?_
          rintro e w1 ⟨rfl, hbm⟩
          have h2 := Lib.hid (Blk.later h1.out hbm)
          have hR2 := Lib.hid (Blk.later hR.out hbm)
          have hb2 := Lib.hid (later hb1.out hbm)
          clear hbm c0 c1 c3 r0 r1
          have c0 := h2.out.cell 0
          have c1 := h2.out.cell 1
          have c3 := h2.out.cell 3
          have r0 := hR2.out.cell 0
          have r1 := hR2.out.cell 1
          simp [cellsB] at c0 c1 c3 r0 r1
          go_wp2_with fail
          refine (rhas_any b s k 9007199254740991 num den _ h2.out hw).mono ?_
          rintro e w2 ⟨rfl, hbm⟩
          have h3 := Lib.hid (Blk.later h2.out hbm)
          have hR3 := Lib.hid (Blk.later hR2.out hbm)
          have hb3 := Lib.hid (later hb2.out hbm)
          clear hbm c0 c1 c3 r0 r1
          have c0 := h3.out.cell 0
          have c1 := h3.out.cell 1
          have c3 := h3.out.cell 3
          have r0 := hR3.out.cell 0
          have r1 := hR3.out.cell 1
          simp [cellsB] at c0 c1 c3 r0 r1
          rw [e.out]
          clear e
          go_wp2_with fail
          go_loopw [7, 8] (fun x y wr => ∃ lo hh : Int, x = .int .i64 lo ∧ y = .int .i64 hh ∧ s.t ≤ lo ∧ lo ≤ V ∧ V ≤ hh ∧ hh ≤ 9007199254740991 ∧ Below w.heap.size w wr ∧ RBk wr b s ∧ Blk wr w.heap.size 49 #[.int .i64 num, .int .i64 den]) (fun x y _ => (intOf y - intOf x).toNat)
          case atStart => exact ⟨s.t, 9007199254740991, rfl, rfl, Int.le_refl _, v0, v1, Int.le_refl _, hb3.out, h3.out, hR3.out⟩
          case round =>
            obtain ⟨lo, hh, rfl, rfl, l0, l1, l2, l3, hbw, hm0, hr0⟩ := hrel
            have hbw := Lib.hid hbw
            have hm0 := Lib.hid hm0
            have hr0 := Lib.hid hr0
            clear c0 c1 c3 r0 r1
            have r0 := hr0.out.cell 0
            have r1 := hr0.out.cell 1
            simp at r0 r1
            by_cases hl : lo < hh
            · have d0 : 0 ≤ (hh - lo) / 2 := by omega
              have d1 : lo + (hh - lo) / 2 < hh := by omega
              have hi' := hi.out (lo + (hh - lo) / 2) (by omega) (by omega)
              by_cases hv : V ≤ lo + (hh - lo) / 2
              · have e : decide (k ≤ (Bkt.fillS s (lo + (hh - lo) / 2) num den).n) = true := by simpa using hi'.2 hv
                have e := Lib.hid e
                clear hi'
                go_wp2_with fail
                refine (rhas_any b s k _ num den _ hm0.out hw).mono ?_
                rintro e' w4 ⟨rfl, hbm⟩
                have hm1 := Lib.hid (Blk.later hm0.out hbm)
                have hr1 := Lib.hid (Blk.later hr0.out hbm)
                have hbw1 := Lib.hid (old_later hbw.out hbm hbw.out.size)
                clear hbm r0 r1
                rw [e.out]
                clear e
                go_wp2_with fail
                go_roundw
                case rel => exact ⟨lo, _, rfl, rfl, l0, l1, hv, by omega, hbw1.out, hm1.out, hr1.out⟩
                case measure => simp [intOf]; omega
              · have e : decide (k ≤ (Bkt.fillS s (lo + (hh - lo) / 2) num den).n) = false := by simp; exact Int.not_le.1 (fun hx => hv (hi'.1 hx))
                have e := Lib.hid e
                clear hi'
                go_wp2_with fail
                refine (rhas_any b s k _ num den _ hm0.out hw).mono ?_
                rintro e' w4 ⟨rfl, hbm⟩
                have hm1 := Lib.hid (Blk.later hm0.out hbm)
                have hr1 := Lib.hid (Blk.later hr0.out hbm)
                have hbw1 := Lib.hid (old_later hbw.out hbm hbw.out.size)
                clear hbm r0 r1
                rw [e.out]
                clear e
                go_wp2_with fail
                go_roundw
                case rel => exact ⟨_, hh, rfl, rfl, by omega, by omega, l2, l3, hbw1.out, hm1.out, hr1.out⟩
                case measure => simp [intOf]; omega
            · have hV : lo = V := by omega
              go_wp2_with fail
              go_ret
              exact ⟨rfl, hbw.out⟩
end Go.Proofs.Ytniiemmgcjkphaa
