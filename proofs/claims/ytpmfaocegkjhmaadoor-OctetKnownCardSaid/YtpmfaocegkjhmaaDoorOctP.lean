/-
  Layer 2: OctetReads.
-/
import Derived.Test.YtpmfaocegkjhmaaDoorOctO
namespace Go.Proofs.YtpmfaocegkjhmaaDoor
open Go.RowKit Go.Sort Go.Shelf Go.Deep Go.WideShapes

set_option maxHeartbeats 4000000 in
set_option maxRecDepth 100000 in
theorem reads_any (A : Option Addr) (n c : Nat) (l : List Int) (A1 : Option Addr) (n1 c1 : Nat) (f : Nat → Nat → Int) (w : World) (hL : Lim w) (h : Rb w A n c l) (hl : Oct.Bys l) (_hn1 : n1 ≤ 9223372036854775807) (hR1 : Rd w A1 1 n1 f) :
    Calls Tryd.prog 7 #[.slice A n c, .slice A1 n1 c1] w fun e w' => e = .returned (.bool true) ∧ Below w.heap.size w w' := by
  clear _hn1
  obtain ⟨K, hK⟩ : ∃ K : Nat, min (n : Int) 300 = (K : Int) := ⟨(min (n : Int) 300).toNat, by omega⟩
  obtain ⟨A2, hsl, hr⟩ := rb_to h (K := K) (by omega)
  have hl2 := hl.take K
  have hK2 : K ≤ 300 := by omega
  generalize l.take K = l at *
  clear h hl
  rename_i l0
  clear l0
  have hlen := hr.1
  have h0 := hL.lt
  have hC := copyb_any A2 K c l w hr (by omega)
  replace hL := Lib.hid hL
  replace hr := Lib.hid hr
  replace hR1 := Lib.hid hR1
  go_enter Tryd.func7, Tryd.ntmps7
  go_wp2_with fail
  refine hC.mono ?_
  clear hC
  rintro e w1 ⟨v, rfl, ho, hb⟩
  obtain ⟨q0, A3, c3, e1, hq0, hsl3, hjunk⟩ := ho.open_
  clear hjunk
  obtain ⟨A4, c4, g, rfl, hg, hnc, hov, hrb⟩ := ho.bx
  injection e1 with a1 a2 a3
  subst a1 a3
  rw [hlen] at hnc hov hrb hsl3 ⊢
  have hs1 := hb.size
  have hgs : 0 < K → g < w1.heap.size := fun hh => (hov hh).2.1
  have hb1 := Lib.hid hb
  have hr1 := Lib.hid (hr.out.later hb)
  have hL1 := Lib.hid (hL.out.later hb)
  clear hb ho a2
  have hN := newr2_any A4 K c4 q0 l w1 (by omega) hsl3 (by omega) hl2
  replace hov := Lib.hid hov
  replace hrb := Lib.hid hrb
  replace hsl3 := Lib.hid hsl3
  go_wp2_with fail
  refine hN.mono ?_
  clear hN
  rintro e w2 ⟨p, q, rfl, hrd, hat, hb⟩
  replace hr1 := Lib.hid (hr1.out.later hb)
  replace hL1 := Lib.hid (hL1.out.later hb)
  replace hov := Lib.hid (Ov.later hov.out hb)
  replace hrb := Lib.hid (hrb.out.later hb)
  replace hsl3 := Lib.hid (hsl3.out.later hb)
  have hs2 := hb.size
  replace hb1 := Lib.hid (later hb1.out hb)
  clear hb
  replace hrd := Lib.hid hrd
  replace hat := Lib.hid hat
  have hN := rnewr2_any A2 K c l w2 (by omega) hr1.out (by omega) hl2
  go_wp2_with fail
  refine hN.mono ?_
  clear hN
  rintro e w3 ⟨p', q', rfl, hrm, hat', hb⟩
  replace hr1 := Lib.hid (hr1.out.later hb)
  replace hL1 := Lib.hid (hL1.out.later hb)
  replace hov := Lib.hid (hov.out.later hb)
  replace hrb := Lib.hid (hrb.out.later hb)
  replace hsl3 := Lib.hid (hsl3.out.later hb)
  replace hrd := Lib.hid (hrd.out.later hb)
  replace hb1 := Lib.hid (later hb1.out hb)
  have hs3 := hb.size
  clear hb
  replace hrm := Lib.hid hrm
  replace hat' := Lib.hid hat'
  have hS := strict_any A4 K c4 q0 l w3 hL1.out hsl3.out (by omega) hl2
  have hT := fun W (h : Rb W A2 K c l) => rstrict_any A2 K c l W h (by omega) hl2
  generalize Oct.strict l = st at *
  go_wp2_with fail
  refine hS.mono ?_
  clear hS
  rintro e w4 ⟨rfl, hb⟩
  replace hr1 := Lib.hid (hr1.out.later hb)
  replace hL1 := Lib.hid (hL1.out.later hb)
  replace hov := Lib.hid (hov.out.later hb)
  replace hrb := Lib.hid (hrb.out.later hb)
  replace hrd := Lib.hid (hrd.out.later hb)
  replace hrm := Lib.hid (hrm.out.later hb)
  replace hb1 := Lib.hid (later hb1.out hb)
  have hs4 := hb.size
  clear hb hsl3
  go_wp2_with fail
  refine (hT w4 hr1.out).mono ?_
  clear hT
  rintro e w5 ⟨rfl, hb⟩
  replace hr1 := Lib.hid (hr1.out.later hb)
  replace hov := Lib.hid (hov.out.later hb)
  replace hrb := Lib.hid (hrb.out.later hb)
  replace hrd := Lib.hid (hrd.out.later hb)
  replace hrm := Lib.hid (hrm.out.later hb)
  replace hb1 := Lib.hid (later hb1.out hb)
  have hs5 := hb.size
  clear hb hL1
  have hst : (st != st) = false := by simp
  go_wp2_with fail
  refine (eqb_same hrb.out hr1.out hl2).mono ?_
  rintro e w6 ⟨rfl, rfl⟩
  clear hst hrb hr1
  have hd : p ≠ p' ∧ q ≠ p' ∧ q' ≠ p ∧ (0 < K → p ≠ g ∧ q ≠ g ∧ p' ≠ g ∧ q' ≠ g) ∧ w.heap.size ≤ p ∧ w.heap.size ≤ p' ∧ p ≠ q ∧ p' ≠ q' := by
    obtain ⟨a1, a2, a3, a4, a5⟩ := hat.out
    obtain ⟨b1, b2, b3, b4, b5⟩ := hat'.out
    refine ⟨by omega, by omega, by omega, fun hh => ?_, by omega, by omega, a4, b4⟩
    have := hgs hh
    omega
  obtain ⟨d1, d2, d3, d4, d5, d6, d7, d8⟩ := hd
  have hq5 : q < w5.heap.size ∧ q' < w5.heap.size := ⟨by have := hat.out.q1; omega, by have := hat'.out.q1; omega⟩
  clear hat hat' hgs
  go_wp2_with fail
  go_loopw [8] (fun i wr => ∃ k : Nat, i = .int .i64 (k : Int) ∧ k ≤ K ∧ Rdr wr p q ⟨l, 0⟩ ∧ RRdr wr p' q' ⟨l, 0⟩ ∧ Ov wr A4 g K ∧ (q < wr.heap.size ∧ q' < wr.heap.size) ∧ Below w.heap.size w wr) (fun i _ => K - (intOf i).toNat)
  case atStart => exact ⟨0, rfl, by omega, hrd.out, hrm.out, hov.out, hq5, hb1.out⟩
  case round =>
    clear hrd hrm hov hb1 hq5
    obtain ⟨k, rfl, hk, hrd, hrm, hov, hqw, hbw⟩ := hrel
    by_cases hlt : k < K
    · obtain ⟨rfl, hgl, hbx⟩ := hov (by omega)
      obtain ⟨x, y0, f0⟩ := hbx.cell hlt
      obtain ⟨n1', n2', n3', n4'⟩ := d4 (by omega)
      have hlt' : (k : Int) < (K : Int) := by omega
      have hwi : IntKind.i64.wrap ((k : Int) + 1) = (k : Int) + 1 := IntWalk.i64_in _ (by omega)
      replace hrd := Lib.hid hrd
      replace hrm := Lib.hid hrm
      replace hov := Lib.hid hov
      replace hbw := Lib.hid hbw
      replace hbx := Lib.hid hbx
      replace d4 := Lib.hid d4
      go_wp2_with fail
      refine ⟨⟨k + 1, by simp, by omega, hrd.out.wr n1' n2' _ _, hrm.out.wr n3' n4' _ _, hov.out.set _ _, by simpa [World.setCell] using hqw, low_wr hbw.out hg hbw.out.size _ _⟩, ?_⟩
      simp only [intOf]
      omega
    · have hlt' : ¬ (k : Int) < (K : Int) := by omega
      replace hrd := Lib.hid hrd
      replace hrm := Lib.hid hrm
      replace hov := Lib.hid hov
      replace hbw := Lib.hid hbw
      replace d4 := Lib.hid d4
      replace hL := Lib.hid hL
      clear hov
      go_wp2_with fail
      go_loopw [9] (fun i wr => ∃ (k : Nat) (s : Oct.St), i = .int .i64 (k : Int) ∧ k ≤ 60 ∧ Rdr wr p q s ∧ RRdr wr p' q' s ∧ (q < wr.heap.size ∧ q' < wr.heap.size) ∧ Below w.heap.size w wr) (fun i _ => 60 - (intOf i).toNat)
      case atStart => exact ⟨0, _, rfl, by omega, hrd.out, hrm.out, hqw, hbw.out⟩
      case round =>
        clear hrd hrm hbw hk hqw
        obtain ⟨k, s, rfl, hk, hrd, hrm, hqw, hbw⟩ := hrel
        by_cases hlt : k < n1 ∧ k < 60
        · obtain ⟨hlt, h60⟩ := hlt
          have hlt' : (k : Int) < (n1 : Int) := by omega
          have h60' : (k : Int) < 60 := by omega
          have hwi : IntKind.i64.wrap ((k : Int) + 1) = (k : Int) + 1 := IntWalk.i64_in _ (by omega)
          obtain ⟨b, off, rfl, hc⟩ := hR1.out.at1 hlt
          have y1 := hc wr hbw
          replace hc := Lib.hid hc
          generalize f k 0 = z at *
          obtain ⟨T, hT⟩ : ∃ T, wrap64 (z.tdiv 7) = T := ⟨_, rfl⟩
          obtain ⟨D, hD⟩ : ∃ D, z.tmod 7 = D := ⟨_, rfl⟩
          replace hrd := Lib.hid hrd
          replace hrm := Lib.hid hrm
          replace hbw := Lib.hid hbw
          replace hqw := Lib.hid hqw
          by_cases h5 : D = 5 ∨ D = -2
          · have hA := take_any p q T s wr hrd.out d7
            have hbt := Lib.hid (bys_take_reader (k := T) hrd.out.bys)
            have hlt3 := Nat.le_trans (take_length T s) hrd.out.len
            generalize hR : Oct.take T s = R at *
            obtain ⟨R1, s2⟩ := R
            replace hR := Lib.hid hR
            rcases h5 with rfl | rfl
            all_goals
              go_wp2_with fail
              with_reducible refine hA.mono ?_
              clear hA
              rintro e w6 ⟨v, rfl, ho, hrd2, hon⟩
              have hsz6 := hon.size
              have hbw6 := only_old hbw.out hon (by rintro i rfl; exact d5) hbw.out.size
              have hrm6 := hrm.out.but hon (Ne.symm d1) d3
              have y6 := hc.out w6 hbw6
              have hltp := hrm.out.lt
              have hltp2 := hrd.out.lt
              have hM := rtake_any p' q' T s w6 hrm6 d8
              rw [hR.out] at hM
              have hqr := hqw.out
              replace hqw := Lib.hid (show q < w6.heap.size ∧ q' < w6.heap.size from ⟨Nat.lt_of_lt_of_le hqw.out.1 hsz6, Nat.lt_of_lt_of_le hqw.out.2 hsz6⟩)
              have hB := hqw
              clear hB
              replace ho := Lib.hid ho
              replace hrd2 := Lib.hid hrd2
              replace hon := Lib.hid hon
              replace hbw6 := Lib.hid hbw6
              replace hrm6 := Lib.hid hrm6
              go_wp2_with fail
              with_reducible refine hM.mono ?_
              clear hM
              rintro e w7 ⟨v', rfl, ho', hrm7, hon'⟩
              have hsz7 := hon'.size
              have hbw7 := Lib.hid (only_old hbw6.out hon' (by rintro i rfl; exact d6) hbw6.out.size)
              have hrd7 := Lib.hid (hrd2.out.but hon' d1 d2)
              have ho7 := ho.out.but hon' hltp
              obtain ⟨A7, c7, g7, rfl, hg7, hnc7, hov7, hrb7⟩ := ho7.bx
              obtain ⟨A8, c8, rfl, hrb8⟩ := ho'.rb
              replace hrm7 := Lib.hid hrm7
              replace hrb7 := Lib.hid hrb7
              replace hrb8 := Lib.hid hrb8
              clear ho' ho ho7 hon' hrd2 hrm6 hbw6 hon hrd hrm
              go_wp2_with fail
              refine (eqb_same hrb7.out hrb8.out hbt.out).mono ?_
              rintro e w8 ⟨rfl, rfl⟩
              clear hrb7 hrb8
              replace hov7 := Lib.hid (show Ov w7 A7 g7 R1.length from hov7)
              obtain ⟨m, hm⟩ : ∃ m, R1.length = m := ⟨_, rfl⟩
              rw [hm] at hov7 hnc7 hlt3 ⊢
              replace hm := Lib.hid hm
              have hbr : w.heap.size ≤ wr.heap.size := hbw.out.size
              have hqw7 := Lib.hid (show q < w7.heap.size ∧ q' < w7.heap.size from ⟨Nat.lt_of_lt_of_le hqw.out.1 hsz7, Nat.lt_of_lt_of_le hqw.out.2 hsz7⟩)
              have n7 : p ≠ g7 ∧ q ≠ g7 ∧ p' ≠ g7 ∧ q' ≠ g7 ∧ w.heap.size ≤ g7 := by omega
              obtain ⟨n1', n2', n3', n4', n5'⟩ := n7
              clear hqw hsz7 hsz6 hqr hltp hltp2 hbw y1 y6 hc hR
              clear hD hT
              go_wp2_with fail
              go_loopw [11] (fun i wx => ∃ j : Nat, i = .int .i64 (j : Int) ∧ j ≤ m ∧ Rdr wx p q s2 ∧ RRdr wx p' q' s2 ∧ Ov wx A7 g7 m ∧ (q < wx.heap.size ∧ q' < wx.heap.size) ∧ Below w.heap.size w wx) (fun i _ => m - (intOf i).toNat)
              case atStart => exact ⟨0, rfl, by omega, hrd7.out, hrm7.out, hov7.out, hqw7.out, hbw7.out⟩
              case round =>
                clear hrd7 hrm7 hov7 hqw7 hbw7
                obtain ⟨j, rfl, hj, hrd, hrm, hov, hqw, hbw⟩ := hrel
                by_cases hjm : j < m
                · obtain ⟨rfl, hgl, hbx⟩ := hov (by omega)
                  obtain ⟨x, z0, f0⟩ := hbx.cell hjm
                  have hjm' : (j : Int) < (m : Int) := by omega
                  have hwj : IntKind.i64.wrap ((j : Int) + 1) = (j : Int) + 1 := IntWalk.i64_in _ (by omega)
                  replace hrd := Lib.hid hrd
                  replace hrm := Lib.hid hrm
                  replace hov := Lib.hid hov
                  replace hbw := Lib.hid hbw
                  replace hbx := Lib.hid hbx
                  replace hqw := Lib.hid hqw
                  go_wp2_with fail
                  refine ⟨⟨j + 1, by simp, by omega, hrd.out.wr n1' n2' _ _, hrm.out.wr n3' n4' _ _, hov.out.set _ _, by simpa [World.setCell] using hqw.out, low_wr hbw.out n5' hbw.out.size _ _⟩, ?_⟩
                  simp only [intOf]
                  omega
                · have hjm' : ¬ (j : Int) < (m : Int) := by omega
                  replace hrd := Lib.hid hrd
                  replace hrm := Lib.hid hrm
                  replace hqw := Lib.hid hqw
                  replace hbw := Lib.hid hbw
                  clear hov
                  go_wp2_with fail
                  have yE := hrm.out.err
                  have hle := left_any p q s2
                  have hrle := rleft_any p' q' s2
                  have her := err_any p q s2
                  have hfi := end_any p q s2
                  have hrfi := rend_any p' q' s2
                  generalize s2.l.length = N1 at *
                  generalize s2.e = N2 at *
                  generalize Oct.fin s2 = N3 at *
                  replace hle := Lib.hid hle
                  replace hrle := Lib.hid hrle
                  replace her := Lib.hid her
                  replace hfi := Lib.hid hfi
                  replace hrfi := Lib.hid hrfi
                  go_quiet (first | (go_at_call 27; exact quiet_left (hle.out _ (hrd.out.drewN _))) | (go_at_call 34; exact quiet_left (hrle.out _ (hrm.out.drewN _))) | (go_at_call 25; exact quiet_left (her.out _ (hrd.out.drewN _))) | (go_at_call 26; exact quiet_left (hfi.out _ (hrd.out.drewN _))) | (go_at_call 35; exact quiet_left (hrfi.out _ (hrm.out.drewN _))))
                  go_wp2_with fail
                  refine ⟨⟨k + 1, s2, by simp, by omega, hrd.out.drewN _, hrm.out.drewN _, hqw.out, laterNq hbw.out _⟩, ?_⟩
                  simp only [intOf]
                  omega
          · have h5a : ¬ D = 5 := fun h => h5 (.inl h)
            have h5b : ¬ D = -2 := fun h => h5 (.inr h)
            have h5c : (D == (-2 : Int)) = false := by simpa using h5b
            have h5d : (D == (5 : Int)) = false := by simpa using h5a
            have h5e : decide (D = (-2 : Int)) = false := by simpa using h5b
            have h5f : decide (D = (5 : Int)) = false := by simpa using h5a
            clear h5
            have hA := num_any p q s wr hrd.out d7
            have hltp := hrm.out.lt
            generalize hR : Oct.num s = R at *
            obtain ⟨R1, s2⟩ := R
            replace hR := Lib.hid hR
            go_wp2_with fail
            with_reducible refine hA.mono ?_
            clear hA
            rintro e w6 ⟨rfl, hrd2, hon⟩
            have hsz6 := hon.size
            have hbw6 := only_old hbw.out hon (by rintro i rfl; exact d5) hbw.out.size
            have hrm6 := hrm.out.but hon (Ne.symm d1) d3
            have hM := rnum_any p' q' s w6 hrm6 d8
            rw [hR.out] at hM
            replace hrd2 := Lib.hid hrd2
            replace hon := Lib.hid hon
            replace hbw6 := Lib.hid hbw6
            replace hrm6 := Lib.hid hrm6
            go_wp2_with fail
            with_reducible refine hM.mono ?_
            clear hM
            rintro e w7 ⟨rfl, hrm7, hon'⟩
            have hsz7 := hon'.size
            have hbw7 := Lib.hid (only_old hbw6.out hon' (by rintro i rfl; exact d6) hbw6.out.size)
            have hrd7 := Lib.hid (hrd2.out.but hon' d1 d2)
            have hqw7 := Lib.hid (show q < w7.heap.size ∧ q' < w7.heap.size from ⟨Nat.lt_of_lt_of_le hqw.out.1 (Nat.le_trans hsz6 hsz7), Nat.lt_of_lt_of_le hqw.out.2 (Nat.le_trans hsz6 hsz7)⟩)
            replace hrm7 := Lib.hid hrm7
            clear hon' hrd2 hrm6 hbw6 hon hrd hrm hqw hbw hsz6 hsz7 hD hT hR y1 hc
            go_wp2_with fail
            have yE := hrm7.out.err
            have hle := left_any p q s2
            have hrle := rleft_any p' q' s2
            have her := err_any p q s2
            have hfi := end_any p q s2
            have hrfi := rend_any p' q' s2
            generalize s2.l.length = N1 at *
            generalize s2.e = N2 at *
            generalize Oct.fin s2 = N3 at *
            replace hle := Lib.hid hle
            replace hrle := Lib.hid hrle
            replace her := Lib.hid her
            replace hfi := Lib.hid hfi
            replace hrfi := Lib.hid hrfi
            go_quiet (first | (go_at_call 27; exact quiet_left (hle.out _ (hrd7.out.drewN _))) | (go_at_call 34; exact quiet_left (hrle.out _ (hrm7.out.drewN _))) | (go_at_call 25; exact quiet_left (her.out _ (hrd7.out.drewN _))) | (go_at_call 26; exact quiet_left (hfi.out _ (hrd7.out.drewN _))) | (go_at_call 35; exact quiet_left (hrfi.out _ (hrm7.out.drewN _))))
            go_wp2_with fail
            refine ⟨⟨k + 1, s2, by simp, by omega, hrd7.out.drewN _, hrm7.out.drewN _, hqw7.out, laterNq hbw7.out _⟩, ?_⟩
            simp only [intOf]
            omega
        · have hlt2 : ¬ (k < n1 ∧ k < 60) := hlt
          have hW := works_any wr (hL.out.out.later hbw)
          replace hbw := Lib.hid hbw
          by_cases h60 : k < n1
          · have h61 : ¬ (k : Int) < 60 := by omega
            have h60' : (k : Int) < (n1 : Int) := by omega
            go_wp2_with fail
            refine hW.mono ?_
            rintro e w6 ⟨rfl, hb⟩
            go_wp2
            go_ret
            exact ⟨rfl, later hbw.out hb⟩
          · have h60' : ¬ (k : Int) < (n1 : Int) := by omega
            go_wp2_with fail
            refine hW.mono ?_
            rintro e w6 ⟨rfl, hb⟩
            go_wp2
            go_ret
            exact ⟨rfl, later hbw.out hb⟩
end Go.Proofs.YtpmfaocegkjhmaaDoor
