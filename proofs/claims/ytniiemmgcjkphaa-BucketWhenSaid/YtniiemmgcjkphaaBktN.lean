/-
  The laws of layer 13: BucketWhen.
-/
import Derived.Test.YtniiemmgcjkphaaBktK
namespace Go.Proofs.Ytniiemmgcjkphaa
open Go.RowKit Go.Sort

set_option maxHeartbeats 4000000 in
set_option maxRecDepth 100000 in
theorem bwhen_any (x0 x1 y0 y1 y2 : Int) (A : Option Addr) (n c : Nat) (f : Nat → Nat → Int) (w : World) (hn : n ≤ 9223372036854775807) (hr : Rd w A 1 n f) :
    Calls Try.prog 6 #[.agg #[.int .i64 x0, .int .i64 x1], .agg #[.int .i64 y0, .int .i64 y1, .int .i64 y2], .slice A n c] w fun e w' => e = .returned (.bool true) ∧ Below w.heap.size w w' := by
  have HR := Lib.hid hr
  clear hr
  have hX0 := Int.emod_nonneg x0 (show (16777216 : Int) ≠ 0 by omega)
  have hX1 := Int.emod_lt_of_pos x0 (show (0 : Int) < 16777216 by omega)
  have hY0 := Int.emod_nonneg x1 (show (1073741824 : Int) ≠ 0 by omega)
  have hY1 := Int.emod_lt_of_pos x1 (show (0 : Int) < 1073741824 by omega)
  have hT := Lib.hid (rate_any x0 x1)
  generalize x0 % 16777216 = num at *
  obtain ⟨den, hden⟩ : ∃ den, 1 + x1 % 1073741824 = den := ⟨_, rfl⟩
  rw [hden] at hT
  have hd0 : 1 ≤ den := by omega
  have hd1 : den ≤ 1073741824 := by omega
  clear hden hY0 hY1
  have hN := Lib.hid (bring_same y0 1073741824 (by omega) (by omega))
  have hN0 := Int.emod_nonneg y0 (show (1073741824 : Int) ≠ 0 by omega)
  have hN1 := Int.emod_lt_of_pos y0 (show (0 : Int) < 1073741824 by omega)
  generalize y0 % 1073741824 = Z at *
  have hK := Lib.hid (bring_same y1 (1 + Z + 1) (by omega) (by omega))
  have hK0 := Int.emod_nonneg y1 (show 1 + Z + 1 ≠ 0 by omega)
  have hK1 := Int.emod_lt_of_pos y1 (show 0 < 1 + Z + 1 by omega)
  have hV := Lib.hid (bring_same y2 (1 + Z + 1) (by omega) (by omega))
  have hV0 := Int.emod_nonneg y2 (show 1 + Z + 1 ≠ 0 by omega)
  have hV1 := Int.emod_lt_of_pos y2 (show 0 < 1 + Z + 1 by omega)
  generalize y1 % (1 + Z + 1) = k at *
  generalize y2 % (1 + Z + 1) = V at *
  have hno : Bkt.newOk (1 + Z) 0 = true := by
    unfold Bkt.newOk
    rw [Bool.and_eq_true, decide_eq_true_eq, Sat.isN_iff]; omega
  obtain ⟨S, hS⟩ : ∃ S : Bkt.St, S = ⟨1 + Z, 1 + Z - k, 0, 0, 0, 0⟩ := ⟨_, rfl⟩
  have hke : Bkt.takeE (Bkt.start (1 + Z) 0) k = 0 := by
    unfold Bkt.takeE Bkt.start
    rw [if_neg (by omega), if_neg (by simp only; omega)]
  have hks : Bkt.takeS (Bkt.start (1 + Z) 0) k = S := by
    unfold Bkt.takeS
    rw [if_pos hke, hS]; rfl
  have hvS : Bkt.wf S := hks ▸ Bkt.wf_takeS (Bkt.wf_start hno) k
  have hSB : S.B = 1 + Z := by rw [hS]
  have hSt : S.t = 0 := by rw [hS]
  clear hS
  have hmay : Bkt.may num den = true := by rw [Bkt.may_iff]; omega
  replace hSB := Lib.hid hSB
  replace hSt := Lib.hid hSt
  replace hvS := Lib.hid hvS
  replace hks := Lib.hid hks
  replace hke := Lib.hid hke
  replace hmay := Lib.hid hmay
  go_enter Try.func6, Try.ntmps6
  go_wp2_with fail
  have hx := (Blk.new w 22 #[.int .i64 x0, .int .i64 x1]).alloc (.cells #[.int .i64 y0, .int .i64 y1, .int .i64 y2] 56)
  have hy := Blk.new2 w (.cells #[.int .i64 x0, .int .i64 x1] 22) 56 #[.int .i64 y0, .int .i64 y1, .int .i64 y2]
  have hb := laterA (laterA (Below.refl w.heap.size w) (.cells #[.int .i64 x0, .int .i64 x1] 22)) (.cells #[.int .i64 y0, .int .i64 y1, .int .i64 y2] 56)
  generalize (w.alloc _).alloc _ = W at *
  have c0 := hx.cell 0
  have c1 := hx.cell 1
  simp at c0 c1
  replace hx := Lib.hid hx
  replace hy := Lib.hid hy
  replace hb := Lib.hid hb
  refine (hT.out _).mono ?_
  rintro e w1 ⟨rfl, hbm⟩
  have hWs : w.heap.size + 1 < W.heap.size := by have := hy.out.lt; omega
  have hDs : w.heap.size ≤ W.heap.size := by omega
  have hy1 := Lib.hid (hy.out.later hbm)
  have hb1 := Lib.hid (hb.out.trans (hbm.mono (by omega)))
  clear hbm c0 c1 hx hy hb
  have hy2 := hy1.out.alloc (.cells #[.int .i64 num, .int .i64 den] 25)
  have hr2 := Blk.new w1 25 #[.int .i64 num, .int .i64 den]
  have hb2 := hb1.out.alloc hb1.out.size (.cells #[.int .i64 num, .int .i64 den] 25)
  have hs1 : w.heap.size + 1 < w1.heap.size := hy1.out.lt
  have hs2 := hr2.lt
  have d0 := hy2.cell 0
  have d1 := hy2.cell 1
  simp at d0 d1
  go_wp2_with fail
  generalize w1.alloc _ = w2 at *
  generalize w1.heap.size = R at *
  have n0 : w.heap.size + 1 ≠ R := by omega
  replace hy2 := Lib.hid hy2
  replace hr2 := Lib.hid hr2
  replace hb2 := Lib.hid hb2
  refine (hN.out _).mono ?_
  rintro e w3 ⟨rfl, rfl⟩
  go_wp2_with fail
  refine (bnew_ok (1 + Z) 0 _ hno).mono ?_
  rintro e w3 ⟨rfl, hl3, hbm⟩
  replace hl3 := Lib.hid hl3
  have hy3 := hy2.out.later hbm
  have hr3 := Lib.hid (hr2.out.later hbm)
  have hb3 := Lib.hid (old_later hb2.out hbm hb2.out.size)
  have n1 : R ≠ w2.heap.size := by have := hr2.out.lt; omega
  have n2 : w.heap.size + 1 ≠ w2.heap.size := by have := hy2.out.lt; omega
  have hL : w.heap.size ≤ w2.heap.size := hb2.out.size
  clear hbm d0 d1 hy2 hr2 hb2
  generalize w2.heap.size = L at *
  have d1 := hy3.cell 1
  simp at d1
  replace hy3 := Lib.hid hy3
  go_wp2_with fail
  refine (hK.out _).mono ?_
  rintro e w5 ⟨rfl, rfl⟩
  go_wp2_with fail
  refine (take_to L (Bkt.start (1 + Z) 0) k 0 S _ hl3.out (Bkt.wf_start hno) hke.out hks.out).mono ?_
  rintro e w6 ⟨rfl, hl6, ho⟩
  replace hl6 := Lib.hid hl6
  have hr6 := Lib.hid (hr3.out.one ho n1)
  have hy6 := Lib.hid (hy3.out.one ho n2)
  have hb6 := Lib.hid (one_old hb3.out ho hL hb3.out.size)
  clear ho hl3 hr3 hb3 d1 hy3
  go_wp2_with fail
  go_loopw [11, 12] (fun a i wr => ∃ (j : Nat) (T : Int) (s : Bkt.St), a = .int .i64 T ∧ i = .int .i64 j ∧ j ≤ n ∧ j ≤ 5 ∧ 0 ≤ T ∧ T ≤ 1000 * (j : Int) ∧ s.t = T ∧ s.B = 1 + Z ∧ Bkt.wf s ∧ Bk wr L s ∧ Blk wr R 25 #[.int .i64 num, .int .i64 den] ∧ Blk wr (w.heap.size + 1) 56 #[.int .i64 y0, .int .i64 y1, .int .i64 y2] ∧ Below w.heap.size w wr) (fun _ i _ => 5 - (intOf i).toNat)
  case atStart => exact ⟨0, 0, S, rfl, rfl, by omega, by omega, by omega, by omega, hSt.out, hSB.out, hvS.out, hl6.out, hr6.out, hy6.out, hb6.out⟩
  case round =>
    obtain ⟨j, T, s, rfl, rfl, hj, hj1, hT0, hT1, hst, hsB, hv, hl, hr, hy, hb⟩ := hrel
    clear hl6 hr6 hy6 hb6
    by_cases hlt : j < n ∧ j < 5
    · obtain ⟨hlt, h30⟩ := hlt
      obtain ⟨b, off, rfl, hc⟩ := HR.out.at1 hlt
      have hx := hc _ hb
      clear hc
      have hB := Lib.hid (bring_same (f j 0) 1000 (by omega) (by omega))
      have hm0 := Int.emod_nonneg (f j 0) (show (1000 : Int) ≠ 0 by omega)
      have hm1 := Int.emod_lt_of_pos (f j 0) (show (0 : Int) < 1000 by omega)
      generalize f j 0 = x at *
      generalize x % 1000 = m at *
      have hfe := Bkt.fillE_ok (s := s) (t := T + m) (by omega) (by omega) (by omega) hmay.out
      have hfs := Bkt.fillS_of (s := s) (t := T + m) hmay.out (by omega) (by omega) (by omega)
      have hv2 := Bkt.wf_fillS hv (T + m) num den
      rw [hfs] at hv2
      have q5 : (Bkt.fill s (T + m) num den).t = T + m := Bkt.fill_t _ _ _ _
      have q6 : (Bkt.fill s (T + m) num den).B = 1 + Z := by rw [Bkt.fill_B]; exact hsB
      generalize Bkt.fill s (T + m) num den = S2 at *
      have r0 := hr.cell 0
      have r1 := hr.cell 1
      simp at r0 r1
      replace hfe := Lib.hid hfe
      replace hfs := Lib.hid hfs
      replace hv2 := Lib.hid hv2
      replace q5 := Lib.hid q5
      replace q6 := Lib.hid q6
      replace hst := Lib.hid hst
      replace hsB := Lib.hid hsB
      replace hv := Lib.hid hv
      replace hl := Lib.hid hl
      replace hr := Lib.hid hr
      replace hy := Lib.hid hy
      replace hb := Lib.hid hb
      go_wp2_with fail
      refine (hB.out _).mono ?_
      rintro e w8 ⟨rfl, rfl⟩
      go_wp2_with fail
      refine (fill_to L s (T + m) num den 0 S2 _ hl.out hv.out hfe.out hfs.out).mono ?_
      rintro e w8 ⟨rfl, hl8, ho⟩
      replace hl8 := Lib.hid hl8
      have hr8 := Lib.hid (hr.out.one ho n1)
      have hy8 := Lib.hid (hy.out.one ho n2)
      have hb8 := Lib.hid (one_old hb.out ho hL hb.out.size)
      clear ho r0 r1
      go_wp2_with fail
      go_roundw
      case rel => exact ⟨j + 1, T + m, S2, rfl, by go_num, by omega, by omega, by omega, by omega, q5.out, q6.out, hv2.out, hl8.out, hr8.out, hy8.out, hb8.out⟩
      case measure => simp [intOf]; omega
    · have hcase : ¬ j < n ∨ (j < n ∧ ¬ j < 5) := by omega
      clear hlt
      obtain ⟨a, ha⟩ : ∃ a, Bkt.when_ s V num den = a := ⟨_, rfl⟩
      have hW := Bkt.when_cases hv (k := V) (by omega) (by omega) hmay.out
      have hn1 := hv.n1
      have ht1 := hv.t1
      have hlo := fun t h1 h2 => Bkt.fill_lo hv (t := t) (num := num) (den := den) h1 h2 hd0
      rw [ha] at hW
      have r0 := hr.cell 0
      have r1 := hr.cell 1
      simp at r0 r1
      have y2c := hy.cell 2
      simp at y2c
      subst hst
      replace hsB := Lib.hid hsB
      replace hv := Lib.hid hv
      replace hl := Lib.hid hl
      replace hr := Lib.hid hr
      replace hy := Lib.hid hy
      replace hb := Lib.hid hb
      replace ha := Lib.hid ha
      obtain ⟨hA, rfl⟩ | ⟨hA, hB1, rfl⟩ | ⟨hA, hB1, a', rfl, h0, h1, hi⟩ := hW
      · have hfe := Bkt.fillE_ok (s := s) (t := 9007199254740991) (by omega) (by omega) (by omega) hmay.out
        have hfs := Bkt.fillS_of (s := s) (t := 9007199254740991) hmay.out (by omega) (by omega) (by omega)
        have hlo2 := hlo 9007199254740991 (by omega) hX0
        have hv2 := Bkt.wf_fillS hv.out 9007199254740991 num den
        rw [hfs] at hv2 hA
        generalize Bkt.fill s 9007199254740991 num den = S2 at *
        clear hlo
        have g1 : s.n < V := by omega
        have g2 : S2.n < V := by omega
        replace hfe := Lib.hid hfe
        replace hfs := Lib.hid hfs
        replace hv2 := Lib.hid hv2
        clear hA hlo2 hn1 ht1
        rcases hcase with u1 | ⟨u1, u2⟩
        all_goals
          go_wp2_with fail
          refine (hV.out _).mono ?_
          rintro e w7 ⟨rfl, rfl⟩
          go_wp2_with fail
          refine (when_to L s V num den _ _ hl.out hv.out ha.out).mono ?_
          rintro e w8 ⟨rfl, hbm⟩
          have hl8 := Lib.hid (hl.out.kept hbm)
          have hr8 := Lib.hid (hr.out.later hbm)
          have hb8 := Lib.hid (old_later hb.out hbm hb.out.size)
          clear hbm r0 r1 y2c hl hr hb hy
          have r0 := hr8.out.cell 0
          have r1 := hr8.out.cell 1
          simp at r0 r1
          go_wp2_with fail
          refine (bcopy_any L s _ hl8.out hv.out).mono ?_
          rintro e w9 ⟨rfl, hq9, hbm⟩
          replace hq9 := Lib.hid hq9
          have hl9 := Lib.hid (hl8.out.kept hbm)
          have hr9 := Lib.hid (hr8.out.later hbm)
          have hb9 := Lib.hid (old_later hb8.out hbm hb8.out.size)
          have hQ : w.heap.size ≤ w8.heap.size := hb8.out.size
          clear hbm r0 r1 hl8 hr8 hb8
          generalize w8.heap.size = Q at *
          have r0 := hr9.out.cell 0
          have r1 := hr9.out.cell 1
          simp at r0 r1
          go_wp2_with fail
          refine (tokens_any L s _ hl9.out hv.out).mono ?_
          rintro e w10 ⟨rfl, rfl⟩
          go_wp2_with fail
          refine (fill_to Q s 9007199254740991 num den 0 S2 _ hq9.out hv.out hfe.out hfs.out).mono ?_
          rintro e w10 ⟨rfl, hq10, ho⟩
          replace hq10 := Lib.hid hq10
          have HB := Lib.hid (one_old hb9.out ho hQ hb9.out.size)
          clear ho r0 r1 hl9 hr9 hb9 hq9
          go_wp2_with fail
          refine (tokens_any Q S2 _ hq10.out hv2.out).mono ?_
          rintro e w11 ⟨rfl, rfl⟩
          go_wp2_with fail
          refine (bworks_any _).mono ?_
          rintro e w20 ⟨rfl, hbm⟩
          have hbz := Lib.hid (old_later HB.out hbm HB.out.size)
          clear hbm
          go_wp2_with fail
          go_ret
          exact ⟨rfl, hbz.out⟩
      · have hfe := Bkt.fillE_ok (s := s) (t := s.t) (by omega) (by omega) (by omega) hmay.out
        have hfs := Bkt.fillS_of (s := s) (t := s.t) hmay.out (by omega) (by omega) (by omega)
        have hlo2 := hlo s.t (by omega) hX0
        have hv2 := Bkt.wf_fillS hv.out s.t num den
        rw [hfs] at hv2
        generalize Bkt.fill s s.t num den = S2 at *
        clear hlo hA
        have g2 : V ≤ S2.n := by omega
        replace hfe := Lib.hid hfe
        replace hfs := Lib.hid hfs
        replace hv2 := Lib.hid hv2
        clear hlo2 hn1 hB1
        have g3 : (s.t == -1) = false := by simp; omega
        rcases hcase with u1 | ⟨u1, u2⟩
        all_goals
          go_wp2_with fail
          refine (hV.out _).mono ?_
          rintro e w7 ⟨rfl, rfl⟩
          go_wp2_with fail
          refine (when_to L s V num den _ _ hl.out hv.out ha.out).mono ?_
          rintro e w8 ⟨rfl, hbm⟩
          have hl8 := Lib.hid (hl.out.kept hbm)
          have hr8 := Lib.hid (hr.out.later hbm)
          have hb8 := Lib.hid (old_later hb.out hbm hb.out.size)
          clear hbm r0 r1 y2c hl hr hb hy
          have r0 := hr8.out.cell 0
          have r1 := hr8.out.cell 1
          simp at r0 r1
          go_wp2_with fail
          refine (bcopy_any L s _ hl8.out hv.out).mono ?_
          rintro e w9 ⟨rfl, hq9, hbm⟩
          replace hq9 := Lib.hid hq9
          have hl9 := Lib.hid (hl8.out.kept hbm)
          have hr9 := Lib.hid (hr8.out.later hbm)
          have hb9 := Lib.hid (old_later hb8.out hbm hb8.out.size)
          have hQ : w.heap.size ≤ w8.heap.size := hb8.out.size
          have n3 : R ≠ w8.heap.size := by have := hr8.out.lt; omega
          clear hbm r0 r1 hl8 hr8 hb8
          generalize w8.heap.size = Q at *
          go_wp2_with fail
          refine (bcopy_any L s _ hl9.out hv.out).mono ?_
          rintro e w10 ⟨rfl, hp10, hbm⟩
          replace hp10 := Lib.hid hp10
          have hq10 := Lib.hid (hq9.out.kept hbm)
          have hr10 := Lib.hid (hr9.out.later hbm)
          have hb10 := Lib.hid (old_later hb9.out hbm hb9.out.size)
          have hP : w.heap.size ≤ w9.heap.size := hb9.out.size
          have n4 : w9.heap.size ≠ Q := by have := Blk.lt hq9.out; omega
          clear hbm hl9 hr9 hb9 hq9
          generalize w9.heap.size = P at *
          have r0 := hr10.out.cell 0
          have r1 := hr10.out.cell 1
          simp at r0 r1
          go_wp2_with fail
          refine (fill_to Q s s.t num den 0 S2 _ hq10.out hv.out hfe.out hfs.out).mono ?_
          rintro e w11 ⟨rfl, hq11, ho⟩
          replace hq11 := Lib.hid hq11
          have hp11 := Lib.hid (hp10.out.but ho n4)
          have hr11 := Lib.hid (hr10.out.one ho n3)
          have HB := Lib.hid (one_old hb10.out ho hQ hb10.out.size)
          clear ho r0 r1 hq10 hp10 hr10 hb10
          go_wp2_with fail
          refine (tokens_any Q S2 _ hq11.out hv2.out).mono ?_
          rintro e w12 ⟨rfl, rfl⟩
          go_wp2_with fail
          refine (bworks_any _).mono ?_
          rintro e w20 ⟨rfl, hbm⟩
          have hbz := Lib.hid (old_later HB.out hbm HB.out.size)
          clear hbm
          go_wp2_with fail
          go_ret
          exact ⟨rfl, hbz.out⟩
      · have hfe := Bkt.fillE_ok (s := s) (t := a) (by omega) (by omega) (by omega) hmay.out
        have hfs := Bkt.fillS_of (s := s) (t := a) hmay.out (by omega) (by omega) (by omega)
        have hi1 := (hi a h0 h1).2 (Int.le_refl _)
        have hv2 := Bkt.wf_fillS hv.out a num den
        rw [hfs] at hv2 hi1
        generalize Bkt.fill s a num den = S2 at *
        clear hlo hA
        replace hfe := Lib.hid hfe
        replace hfs := Lib.hid hfs
        replace hv2 := Lib.hid hv2
        clear hn1
        have g3 : (a == -1) = false := by simp; omega
        by_cases hq : a = s.t
        · subst hq
          clear hi
          rcases hcase with u1 | ⟨u1, u2⟩
          all_goals
            go_wp2_with fail
            refine (hV.out _).mono ?_
            rintro e w7 ⟨rfl, rfl⟩
            go_wp2_with fail
            refine (when_to L s V num den _ _ hl.out hv.out ha.out).mono ?_
            rintro e w8 ⟨rfl, hbm⟩
            have hl8 := Lib.hid (hl.out.kept hbm)
            have hr8 := Lib.hid (hr.out.later hbm)
            have hb8 := Lib.hid (old_later hb.out hbm hb.out.size)
            clear hbm r0 r1 y2c hl hr hb hy
            have r0 := hr8.out.cell 0
            have r1 := hr8.out.cell 1
            simp at r0 r1
            go_wp2_with fail
            refine (bcopy_any L s _ hl8.out hv.out).mono ?_
            rintro e w9 ⟨rfl, hq9, hbm⟩
            replace hq9 := Lib.hid hq9
            have hl9 := Lib.hid (hl8.out.kept hbm)
            have hr9 := Lib.hid (hr8.out.later hbm)
            have hb9 := Lib.hid (old_later hb8.out hbm hb8.out.size)
            have hQ : w.heap.size ≤ w8.heap.size := hb8.out.size
            have n3 : R ≠ w8.heap.size := by have := hr8.out.lt; omega
            clear hbm r0 r1 hl8 hr8 hb8
            generalize w8.heap.size = Q at *
            go_wp2_with fail
            refine (bcopy_any L s _ hl9.out hv.out).mono ?_
            rintro e w10 ⟨rfl, hp10, hbm⟩
            replace hp10 := Lib.hid hp10
            have hq10 := Lib.hid (hq9.out.kept hbm)
            have hr10 := Lib.hid (hr9.out.later hbm)
            have hb10 := Lib.hid (old_later hb9.out hbm hb9.out.size)
            have hP : w.heap.size ≤ w9.heap.size := hb9.out.size
            have n4 : w9.heap.size ≠ Q := by have := Blk.lt hq9.out; omega
            clear hbm hl9 hr9 hb9 hq9
            generalize w9.heap.size = P at *
            have r0 := hr10.out.cell 0
            have r1 := hr10.out.cell 1
            simp at r0 r1
            go_wp2_with fail
            refine (fill_to Q s s.t num den 0 S2 _ hq10.out hv.out hfe.out hfs.out).mono ?_
            rintro e w11 ⟨rfl, hq11, ho⟩
            replace hq11 := Lib.hid hq11
            have hp11 := Lib.hid (hp10.out.but ho n4)
            have hr11 := Lib.hid (hr10.out.one ho n3)
            have HB := Lib.hid (one_old hb10.out ho hQ hb10.out.size)
            clear ho r0 r1 hq10 hp10 hr10 hb10
            go_wp2_with fail
            refine (tokens_any Q S2 _ hq11.out hv2.out).mono ?_
            rintro e w12 ⟨rfl, rfl⟩
            go_wp2_with fail
            refine (bworks_any _).mono ?_
            rintro e w20 ⟨rfl, hbm⟩
            have hbz := Lib.hid (old_later HB.out hbm HB.out.size)
            clear hbm
            go_wp2_with fail
            go_ret
            exact ⟨rfl, hbz.out⟩
        · have g4 : (a == s.t) = false := by simp; omega
          have ge : Bkt.fillE s (a - 1) num den = 0 := Bkt.fillE_ok (by omega) (by omega) (by omega) hmay.out
          have gs := Bkt.fillS_of (s := s) (t := a - 1) hmay.out (by omega) (by omega) (by omega)
          have hi2 : ¬ V ≤ (Bkt.fillS s (a - 1) num den).n := fun hh => by have := (hi (a - 1) (by omega) (by omega)).1 hh; omega
          have hv3 := Bkt.wf_fillS hv.out (a - 1) num den
          rw [gs] at hi2 hv3
          generalize Bkt.fill s (a - 1) num den = S3 at *
          have g5 : S3.n < V := by omega
          clear hi hi2 hq
          replace ge := Lib.hid ge
          replace gs := Lib.hid gs
          replace hv3 := Lib.hid hv3
          rcases hcase with u1 | ⟨u1, u2⟩
          all_goals
            go_wp2_with fail
            refine (hV.out _).mono ?_
            rintro e w7 ⟨rfl, rfl⟩
            go_wp2_with fail
            refine (when_to L s V num den _ _ hl.out hv.out ha.out).mono ?_
            rintro e w8 ⟨rfl, hbm⟩
            have hl8 := Lib.hid (hl.out.kept hbm)
            have hr8 := Lib.hid (hr.out.later hbm)
            have hb8 := Lib.hid (old_later hb.out hbm hb.out.size)
            clear hbm r0 r1 y2c hl hr hb hy
            have r0 := hr8.out.cell 0
            have r1 := hr8.out.cell 1
            simp at r0 r1
            go_wp2_with fail
            refine (bcopy_any L s _ hl8.out hv.out).mono ?_
            rintro e w9 ⟨rfl, hq9, hbm⟩
            replace hq9 := Lib.hid hq9
            have hl9 := Lib.hid (hl8.out.kept hbm)
            have hr9 := Lib.hid (hr8.out.later hbm)
            have hb9 := Lib.hid (old_later hb8.out hbm hb8.out.size)
            have hQ : w.heap.size ≤ w8.heap.size := hb8.out.size
            have n3 : R ≠ w8.heap.size := by have := hr8.out.lt; omega
            clear hbm r0 r1 hl8 hr8 hb8
            generalize w8.heap.size = Q at *
            go_wp2_with fail
            refine (bcopy_any L s _ hl9.out hv.out).mono ?_
            rintro e w10 ⟨rfl, hp10, hbm⟩
            replace hp10 := Lib.hid hp10
            have hq10 := Lib.hid (hq9.out.kept hbm)
            have hr10 := Lib.hid (hr9.out.later hbm)
            have hb10 := Lib.hid (old_later hb9.out hbm hb9.out.size)
            have hP : w.heap.size ≤ w9.heap.size := hb9.out.size
            have n4 : w9.heap.size ≠ Q := by have := Blk.lt hq9.out; omega
            clear hbm hl9 hr9 hb9 hq9
            generalize w9.heap.size = P at *
            have r0 := hr10.out.cell 0
            have r1 := hr10.out.cell 1
            simp at r0 r1
            go_wp2_with fail
            refine (fill_to Q s a num den 0 S2 _ hq10.out hv.out hfe.out hfs.out).mono ?_
            rintro e w11 ⟨rfl, hq11, ho⟩
            replace hq11 := Lib.hid hq11
            have hp11 := Lib.hid (hp10.out.but ho n4)
            have hr11 := Lib.hid (hr10.out.one ho n3)
            have hb11 := Lib.hid (one_old hb10.out ho hQ hb10.out.size)
            clear ho r0 r1 hq10 hp10 hr10 hb10
            go_wp2_with fail
            refine (tokens_any Q S2 _ hq11.out hv2.out).mono ?_
            rintro e w12 ⟨rfl, rfl⟩
            have r0 := hr11.out.cell 0
            have r1 := hr11.out.cell 1
            simp at r0 r1
            go_wp2_with fail
            refine (fill_to P s (a - 1) num den 0 S3 _ hp11.out hv.out ge.out gs.out).mono ?_
            rintro e w13 ⟨rfl, hp13, ho⟩
            replace hp13 := Lib.hid hp13
            have HB := Lib.hid (one_old hb11.out ho hP hb11.out.size)
            clear ho r0 r1 hp11 hr11 hb11 hq11
            go_wp2_with fail
            refine (tokens_any P S3 _ hp13.out hv3.out).mono ?_
            rintro e w14 ⟨rfl, rfl⟩
            go_wp2_with fail
            refine (bworks_any _).mono ?_
            rintro e w20 ⟨rfl, hbm⟩
            have hbz := Lib.hid (old_later HB.out hbm HB.out.size)
            clear hbm
            go_wp2_with fail
            go_ret
            exact ⟨rfl, hbz.out⟩
end Go.Proofs.Ytniiemmgcjkphaa
