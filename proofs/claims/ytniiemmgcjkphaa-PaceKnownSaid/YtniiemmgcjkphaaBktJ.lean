/-
  The laws of layer 13: BucketPlays.
-/
import Derived.Test.YtniiemmgcjkphaaBktI
import Derived.Test.YtniiemmgcjkphaaRead
namespace Go.Proofs.Ytniiemmgcjkphaa
open Go.RowKit Go.Sort

theorem Rd.at5 {w : World} {A : Option Addr} {n : Nat} {f : Nat → Nat → Int} (h : Rd w A 5 n f) {k : Nat} (hk : k < n) :
    ∃ b off, A = some ⟨b, off, none⟩ ∧ ∀ wx, Below w.heap.size w wx → wx.cell? ⟨b, off + k * 5, none⟩ = some (.int .i64 (f k 0)) ∧ wx.cell? ⟨b, off + k * 5 + 1, none⟩ = some (.int .i64 (f k 1)) ∧ wx.cell? ⟨b, off + k * 5 + 2, none⟩ = some (.int .i64 (f k 2)) ∧ wx.cell? ⟨b, off + k * 5 + 3, none⟩ = some (.int .i64 (f k 3)) ∧ wx.cell? ⟨b, off + k * 5 + 4, none⟩ = some (.int .i64 (f k 4)) := by
  obtain ⟨b, off, rfl, hb, hc⟩ := h (by omega)
  have g : ∀ wx, Below w.heap.size w wx → ∀ j, j < 5 → wx.cell? ⟨b, off + k * 5 + j, none⟩ = some (.int .i64 (f k j)) := fun wx hx j hj => by
    have := (hx.cell (p := ⟨b, _, none⟩) hb).trans (hc k hk j hj)
    rwa [show off + (k * 5 + j) = off + k * 5 + j by omega] at this
  exact ⟨b, off, rfl, fun wx hx => ⟨g wx hx 0 (by omega), g wx hx 1 (by omega), g wx hx 2 (by omega), g wx hx 3 (by omega), g wx hx 4 (by omega)⟩⟩

set_option maxHeartbeats 4000000 in
set_option maxRecDepth 100000 in
theorem bplays_any (B t : Int) (A : Option Addr) (n c : Nat) (f : Nat → Nat → Int) (w : World) (hn : n ≤ 9223372036854775807) (hr : Rd w A 5 n f) :
    Calls Try.prog 5 #[.int .i64 B, .int .i64 t, .slice A n c] w fun e w' => e = .returned (.bool true) ∧ Below w.heap.size w w' := by
  have HR := Lib.hid hr
  clear hr
  by_cases hno : Bkt.newOk B t = true
  · go_enter Try.func5, Try.ntmps5
    go_wp2_with fail
    refine (bnew_ok B t _ hno).mono ?_
    rintro e wb ⟨rfl, lb, bb⟩
    go_wp2_with fail
    refine (rbnew_ok B t _ hno).mono ?_
    rintro e wc ⟨rfl, lc, bc⟩
    go_wp2_with fail
    have hLL : w.heap.size < wb.heap.size := Blk.lt lb
    have hbc := later bb bc
    have lb := lb.kept bc
    have hv := Bkt.wf_start hno
    generalize wb.heap.size = M at *
    clear bc bb
    go_loopw [7, 11] (fun a i wr => ∃ (k L : Nat) (s : Bkt.St), a = .pointer (some ⟨L, 0, none⟩) ∧ i = .int .i64 k ∧ k ≤ n ∧ k ≤ 60 ∧ w.heap.size ≤ L ∧ Bkt.wf s ∧ Bk wr L s ∧ RBk wr M s ∧ Below w.heap.size w wr) (fun _ i _ => 60 - (intOf i).toNat)
    case atStart => exact ⟨0, w.heap.size, _, rfl, rfl, by omega, by omega, by omega, hv, lb, lc, hbc⟩
    case round =>
      obtain ⟨k, L, s, rfl, rfl, hk, hk1, hL, hv, hl, hm, hbw⟩ := hrel
      clear lb lc hbc
      have hne := Blk.ne_ hl hm (by decide)
      replace hl := Lib.hid hl
      replace hm := Lib.hid hm
      replace hbw := Lib.hid hbw
      replace hv := Lib.hid hv
      by_cases hlt : k < n ∧ k < 60
      · obtain ⟨hlt, h100⟩ := hlt
        obtain ⟨b, off, rfl, hc⟩ := HR.out.at5 hlt
        obtain ⟨y0, y1, y2, y3, y4⟩ := hc _ hbw.out
        clear hc
        have hB := Lib.hid (bring_same (f k 0) 8 (by omega) (by omega))
        have hK0 := Int.emod_nonneg (f k 0) (show (8 : Int) ≠ 0 by omega)
        have hK1 := Int.emod_lt_of_pos (f k 0) (show (0 : Int) < 8 by omega)
        generalize f k 0 = x0 at *
        generalize f k 1 = x1 at *
        generalize f k 2 = x2 at *
        generalize f k 3 = x3 at *
        generalize f k 4 = x4 at *
        generalize x0 % 8 = K at *
        rcases (by omega : (K = 0 ∨ K = 1 ∨ K = 2) ∨ (K = 3 ∨ K = 4) ∨ (K = 5 ∨ K = 6) ∨ K = 7) with h | h | h | rfl
        · clear hK0 hK1
          rcases h with rfl | rfl | rfl
          all_goals
            go_wp2_with fail
            refine (hB.out _).mono ?_
            rintro e w1 ⟨rfl, rfl⟩
            go_wp2_with fail
            have hd := Blk.new wr 47 #[.int .i64 x0, .int .i64 x1, .int .i64 x2, .int .i64 x3, .int .i64 x4]
            have hbW := laterA (Below.refl wr.heap.size wr) (.cells #[.int .i64 x0, .int .i64 x1, .int .i64 x2, .int .i64 x3, .int .i64 x4] 47)
            have hl1 := Lib.hid (hl.out.kept hbW)
            have hm1 := Lib.hid (hm.out.kept hbW)
            have hb1 := Lib.hid (old_later hbw.out hbW hbw.out.size)
            have n1 : wr.heap.size ≠ L := by have := Blk.lt hl.out; omega
            have n2 : wr.heap.size ≠ M := by have := Blk.lt hm.out; omega
            generalize wr.alloc (.cells #[.int .i64 x0, .int .i64 x1, .int .i64 x2, .int .i64 x3, .int .i64 x4] 47) = W at *
            clear hbW hl hm hbw y0 y1 y2 y3 y4
            generalize wr.heap.size = D at *
            have e1 := hd.cell 1
            have e2 := hd.cell 2
            have e3 := hd.cell 3
            have e4 := hd.cell 4
            simp at e1 e2 e3 e4
            replace hd := Lib.hid hd
            have hl1d := Lib.hid hl1.out.drew
            go_region_held3 (fun w' => w'.cell? ⟨D, 1, none⟩ = some (.int .i64 x1) ∧ w'.cell? ⟨D, 3, none⟩ = some (.int .i64 x3) ∧ w'.cell? ⟨D, 4, none⟩ = some (.int .i64 x4)) (first | exact ⟨e1, e3, e4⟩ | exact ⟨g21, g23, g24⟩ | exact ⟨g31, g33, g34⟩) (first | (go_at_call 19; (with_reducible refine (fill_any _ _ x1 x3 x4 _ hl1d.out hv.out).mono ?_); rintro e w2 ⟨rfl, hl2, ho2⟩; have ho2 := one_undrew ho2; have hd2 := hd.out.one ho2 n1; have g21 := hd2.cell 1; have g23 := hd2.cell 3; have g24 := hd2.cell 4; simp at g21 g23 g24; have hd2 := Lib.hid hd2; have hm2 := Lib.hid (hm1.out.but ho2 (Ne.symm hne)); have hl2 := Lib.hid hl2; have hb2 := Lib.hid (one_old hb1.out ho2 hL hb1.out.size); clear ho2) | (go_at_call 24; (with_reducible refine (rfill_any _ _ x1 x3 x4 _ hm2.out hv.out).mono ?_); rintro e w3 ⟨rfl, hm3, ho3⟩; have hd3 := hd2.out.one ho3 n2; have g31 := hd3.cell 1; have g33 := hd3.cell 3; have g34 := hd3.cell 4; simp at g31 g33 g34; have hd3 := Lib.hid hd3; have hl3 := Lib.hid (hl2.out.but ho3 hne); have hm3 := Lib.hid hm3; have hb3 := Lib.hid (one_old hb2.out ho3 (by omega) hb2.out.size); clear ho3))
            go_wp2_with fail
            refine (bsame_any _ _ _ _ hl3.out hm3.out (Bkt.wf_fillS hv.out x1 x3 x4)).mono ?_
            rintro e w9 ⟨rfl, hb9⟩
            have hl9 := Lib.hid (hl3.out.kept hb9)
            have hm9 := Lib.hid (hm3.out.kept hb9)
            have hb9 := Lib.hid (old_later hb3.out hb9 hb3.out.size)
            go_wp2_with fail
            go_roundw
            case rel => exact ⟨k + 1, L, _, rfl, by go_num, by omega, by omega, by omega, Bkt.wf_fillS hv.out x1 x3 x4, hl9.out, hm9.out, hb9.out⟩
            case measure => simp [intOf]; omega
        · clear hK0 hK1
          rcases h with rfl | rfl
          all_goals
            go_wp2_with fail
            refine (hB.out _).mono ?_
            rintro e w1 ⟨rfl, rfl⟩
            go_wp2_with fail
            have hd := Blk.new wr 47 #[.int .i64 x0, .int .i64 x1, .int .i64 x2, .int .i64 x3, .int .i64 x4]
            have hbW := laterA (Below.refl wr.heap.size wr) (.cells #[.int .i64 x0, .int .i64 x1, .int .i64 x2, .int .i64 x3, .int .i64 x4] 47)
            have hl1 := Lib.hid (hl.out.kept hbW)
            have hm1 := Lib.hid (hm.out.kept hbW)
            have hb1 := Lib.hid (old_later hbw.out hbW hbw.out.size)
            have n1 : wr.heap.size ≠ L := by have := Blk.lt hl.out; omega
            have n2 : wr.heap.size ≠ M := by have := Blk.lt hm.out; omega
            generalize wr.alloc (.cells #[.int .i64 x0, .int .i64 x1, .int .i64 x2, .int .i64 x3, .int .i64 x4] 47) = W at *
            clear hbW hl hm hbw y0 y1 y2 y3 y4
            generalize wr.heap.size = D at *
            have e1 := hd.cell 1
            have e2 := hd.cell 2
            have e3 := hd.cell 3
            have e4 := hd.cell 4
            simp at e1 e2 e3 e4
            replace hd := Lib.hid hd
            have hl1d := Lib.hid hl1.out.drew
            go_region_held3 (fun w' => w'.cell? ⟨D, 2, none⟩ = some (.int .i64 x2)) (first | exact e2 | exact g22 | exact g32) (first | (go_at_call 18; (with_reducible refine (take_any _ _ x2 _ hl1d.out hv.out).mono ?_); rintro e w2 ⟨rfl, hl2, ho2⟩; have ho2 := one_undrew ho2; have hd2 := hd.out.one ho2 n1; have g22 := hd2.cell 2; simp at g22; have hd2 := Lib.hid hd2; have hm2 := Lib.hid (hm1.out.but ho2 (Ne.symm hne)); have hl2 := Lib.hid hl2; have hb2 := Lib.hid (one_old hb1.out ho2 hL hb1.out.size); clear ho2) | (go_at_call 25; (with_reducible refine (rtake_any _ _ x2 _ hm2.out hv.out).mono ?_); rintro e w3 ⟨rfl, hm3, ho3⟩; have hd3 := hd2.out.one ho3 n2; have g32 := hd3.cell 2; simp at g32; have hd3 := Lib.hid hd3; have hl3 := Lib.hid (hl2.out.but ho3 hne); have hm3 := Lib.hid hm3; have hb3 := Lib.hid (one_old hb2.out ho3 (by omega) hb2.out.size); clear ho3))
            go_wp2_with fail
            refine (bsame_any _ _ _ _ hl3.out hm3.out (Bkt.wf_takeS hv.out x2)).mono ?_
            rintro e w9 ⟨rfl, hb9⟩
            have hl9 := Lib.hid (hl3.out.kept hb9)
            have hm9 := Lib.hid (hm3.out.kept hb9)
            have hb9 := Lib.hid (old_later hb3.out hb9 hb3.out.size)
            go_wp2_with fail
            go_roundw
            case rel => exact ⟨k + 1, L, _, rfl, by go_num, by omega, by omega, by omega, Bkt.wf_takeS hv.out x2, hl9.out, hm9.out, hb9.out⟩
            case measure => simp [intOf]; omega
        · clear hK0 hK1
          rcases h with rfl | rfl
          all_goals
            go_wp2_with fail
            refine (hB.out _).mono ?_
            rintro e w1 ⟨rfl, rfl⟩
            go_wp2_with fail
            have hd := Blk.new wr 47 #[.int .i64 x0, .int .i64 x1, .int .i64 x2, .int .i64 x3, .int .i64 x4]
            have hbW := laterA (Below.refl wr.heap.size wr) (.cells #[.int .i64 x0, .int .i64 x1, .int .i64 x2, .int .i64 x3, .int .i64 x4] 47)
            have hl1 := Lib.hid (hl.out.kept hbW)
            have hm1 := Lib.hid (hm.out.kept hbW)
            have hb1 := Lib.hid (old_later hbw.out hbW hbw.out.size)
            have n1 : wr.heap.size ≠ L := by have := Blk.lt hl.out; omega
            have n2 : wr.heap.size ≠ M := by have := Blk.lt hm.out; omega
            generalize wr.alloc (.cells #[.int .i64 x0, .int .i64 x1, .int .i64 x2, .int .i64 x3, .int .i64 x4] 47) = W at *
            clear hbW hl hm hbw y0 y1 y2 y3 y4
            generalize wr.heap.size = D at *
            have e1 := hd.cell 1
            have e2 := hd.cell 2
            have e3 := hd.cell 3
            have e4 := hd.cell 4
            simp at e1 e2 e3 e4
            replace hd := Lib.hid hd
            have hl1d := Lib.hid hl1.out.drew
            go_region_held3 (fun w' => w'.cell? ⟨D, 2, none⟩ = some (.int .i64 x2) ∧ w'.cell? ⟨D, 3, none⟩ = some (.int .i64 x3) ∧ w'.cell? ⟨D, 4, none⟩ = some (.int .i64 x4)) (first | exact ⟨e2, e3, e4⟩ | exact ⟨g22, g23, g24⟩ | exact ⟨g32, g33, g34⟩) (first | (go_at_call 26; (with_reducible refine (when_any _ _ x2 x3 x4 _ hl1d.out hv.out).mono ?_); rintro e w2 ⟨rfl, ho2⟩; have ho2 := low_undrew ho2; have hd2 := hd.out.later ho2; have g22 := hd2.cell 2; have g23 := hd2.cell 3; have g24 := hd2.cell 4; simp at g22 g23 g24; have hd2 := Lib.hid hd2; have hl2 := Lib.hid (hl1.out.kept ho2); have hm2 := Lib.hid (hm1.out.kept ho2); have hb2 := Lib.hid (old_later hb1.out ho2 hb1.out.size); clear ho2) | (go_at_call 27; (with_reducible refine (rwhen_any _ _ x2 x3 x4 _ hm2.out hv.out).mono ?_); rintro e w3 ⟨rfl, ho3⟩; have hd3 := hd2.out.later ho3; have g32 := hd3.cell 2; have g33 := hd3.cell 3; have g34 := hd3.cell 4; simp at g32 g33 g34; have hd3 := Lib.hid hd3; have hl3 := Lib.hid (hl2.out.kept ho3); have hm3 := Lib.hid (hm2.out.kept ho3); have hb3 := Lib.hid (old_later hb2.out ho3 hb2.out.size); clear ho3))
            go_wp2_with fail
            refine (bsame_any _ _ _ _ hl3.out hm3.out (hv.out)).mono ?_
            rintro e w9 ⟨rfl, hb9⟩
            have hl9 := Lib.hid (hl3.out.kept hb9)
            have hm9 := Lib.hid (hm3.out.kept hb9)
            have hb9 := Lib.hid (old_later hb3.out hb9 hb3.out.size)
            go_wp2_with fail
            go_roundw
            case rel => exact ⟨k + 1, L, _, rfl, by go_num, by omega, by omega, by omega, hv.out, hl9.out, hm9.out, hb9.out⟩
            case measure => simp [intOf]; omega
        · clear hK0 hK1
          go_wp2_with fail
          refine (hB.out _).mono ?_
          rintro e w1 ⟨rfl, rfl⟩
          go_wp2_with fail
          have hd := Blk.new wr 47 #[.int .i64 x0, .int .i64 x1, .int .i64 x2, .int .i64 x3, .int .i64 x4]
          have hbW := laterA (Below.refl wr.heap.size wr) (.cells #[.int .i64 x0, .int .i64 x1, .int .i64 x2, .int .i64 x3, .int .i64 x4] 47)
          have hl1 := Lib.hid (hl.out.kept hbW)
          have hm1 := Lib.hid (hm.out.kept hbW)
          have hb1 := Lib.hid (old_later hbw.out hbW hbw.out.size)
          have n1 : wr.heap.size ≠ L := by have := Blk.lt hl.out; omega
          have n2 : wr.heap.size ≠ M := by have := Blk.lt hm.out; omega
          generalize wr.alloc (.cells #[.int .i64 x0, .int .i64 x1, .int .i64 x2, .int .i64 x3, .int .i64 x4] 47) = W at *
          clear hbW hl hm hbw y0 y1 y2 y3 y4
          generalize wr.heap.size = D at *
          have e1 := hd.cell 1
          have e2 := hd.cell 2
          have e3 := hd.cell 3
          have e4 := hd.cell 4
          simp at e1 e2 e3 e4
          replace hd := Lib.hid hd
          have hl1d := Lib.hid hl1.out.drew
          clear hl1d e1 e2 e3 e4
          go_wp2_with fail
          refine (rbcopy_any M s _ hm1.out).mono ?_
          rintro e w2 ⟨rfl, rp2, ra2⟩
          have q1 := Blk.lt hl1.out
          have q2 := Blk.lt hm1.out
          have q4 := hb1.out.size
          have p1 : W.heap.size ≠ M := by omega
          have p3 : w.heap.size ≤ W.heap.size := by omega
          have hl2 := Lib.hid (hl1.out.kept ra2)
          have hm2 := Lib.hid (hm1.out.kept ra2)
          have hb2 := Lib.hid (old_later hb1.out ra2 hb1.out.size)
          have hp2 := Lib.hid rp2
          clear ra2 rp2 hl1 hm1 hb1 q1 q2 q4
          generalize W.heap.size = P at *
          go_wp2_with fail
          refine (bcopy_any L s _ hl2.out hv.out).mono ?_
          rintro e w3 ⟨rfl, rq3, ra3⟩
          have q1 := Blk.lt hl2.out
          have q2 := Blk.lt hm2.out
          have q4 := Blk.lt hp2.out
          have q5 := hb2.out.size
          have r1 : w2.heap.size ≠ L := by omega
          have r2 : w2.heap.size ≠ P := by omega
          have r4 : w2.heap.size ≠ M := by omega
          have r3 : w.heap.size ≤ w2.heap.size := by omega
          have hl3 := Lib.hid (hl2.out.kept ra3)
          have hm3 := Lib.hid (hm2.out.kept ra3)
          have hp3 := Lib.hid (hp2.out.kept ra3)
          have hb3 := Lib.hid (old_later hb2.out ra3 hb2.out.size)
          have hq3 := Lib.hid rq3
          clear ra3 rq3 hl2 hm2 hb2 hp2 q1 q2 q4 q5
          generalize w2.heap.size = Q at *
          have t1 := Blk.ne_ hl3.out hp3.out (by decide)
          go_wp2_with fail
          refine (bsame_any _ _ _ _ hq3.out hm3.out hv.out).mono ?_
          rintro e w4 ⟨rfl, hb4⟩
          have hl4 := Lib.hid (hl3.out.kept hb4)
          have hm4 := Lib.hid (hm3.out.kept hb4)
          have hp4 := Lib.hid (hp3.out.kept hb4)
          have hq4 := Lib.hid (hq3.out.kept hb4)
          replace hb4 := Lib.hid (old_later hb3.out hb4 hb3.out.size)
          clear hl3 hm3 hp3 hq3 hb3
          go_wp2_with fail
          refine (take_any _ _ 1 _ hl4.out hv.out).mono ?_
          rintro e w5 ⟨rfl, hl5, ho⟩
          replace hl5 := Lib.hid hl5
          have hm5 := Lib.hid (hm4.out.but ho (Ne.symm hne))
          have hp5 := Lib.hid (hp4.out.but ho (Ne.symm t1))
          have hq5 := Lib.hid (hq4.out.but ho r1)
          have hb5 := Lib.hid (one_old hb4.out ho hL hb4.out.size)
          clear hl4 hm4 hp4 hq4 hb4 ho
          go_wp2_with fail
          refine (rtake_any _ _ 1 _ hp5.out hv.out).mono ?_
          rintro e w6 ⟨rfl, hp6, ho⟩
          replace hp6 := Lib.hid hp6
          have hm6 := Lib.hid (hm5.out.but ho (Ne.symm p1))
          have hl6 := Lib.hid (hl5.out.but ho t1)
          have hq6 := Lib.hid (hq5.out.but ho r2)
          have hb6 := Lib.hid (one_old hb5.out ho p3 hb5.out.size)
          clear hl5 hm5 hp5 hq5 hb5 ho
          go_wp2_with fail
          refine (bsame_any _ _ _ _ hl6.out hp6.out (Bkt.wf_takeS hv.out 1)).mono ?_
          rintro e w7 ⟨rfl, hb7⟩
          have hm7 := Lib.hid (hm6.out.kept hb7)
          have hl7 := Lib.hid (hq6.out.kept hb7)
          replace hb7 := Lib.hid (old_later hb6.out hb7 hb6.out.size)
          clear hl6 hm6 hp6 hq6 hb6
          go_wp2_with fail
          refine (bsame_any _ _ _ _ hl7.out hm7.out (hv.out)).mono ?_
          rintro e w9 ⟨rfl, hb9⟩
          have hl9 := Lib.hid (hl7.out.kept hb9)
          have hm9 := Lib.hid (hm7.out.kept hb9)
          have hb9 := Lib.hid (old_later hb7.out hb9 hb7.out.size)
          go_wp2_with fail
          go_roundw
          case rel => exact ⟨k + 1, Q, s, rfl, by go_num, by omega, by omega, by omega, hv.out, hl9.out, hm9.out, hb9.out⟩
          case measure => simp [intOf]; omega
      · have hcase : ¬ k < n ∨ (k < n ∧ ¬ k < 60) := by omega
        clear hlt
        rcases hcase with g1 | ⟨g1, g2⟩
        all_goals
          go_wp2_with fail
          refine (bworks_any _).mono ?_
          rintro e w4 ⟨rfl, hb4⟩
          have hb4 := Lib.hid (old_later hbw.out hb4 hbw.out.size)
          go_wp2_with fail
          go_ret
          exact ⟨rfl, hb4.out⟩
  · have hno' : Bkt.newOk B t = false := by simpa using hno
    go_enter Try.func5, Try.ntmps5
    go_wp2_with fail
    refine (bnew_no B t _ hno').mono ?_
    rintro e wb ⟨rfl, bb⟩
    go_wp2_with fail
    refine (rbnew_no B t _ hno').mono ?_
    rintro e wc ⟨rfl, bc⟩
    go_wp2_with fail
    have hbc := later bb bc
    refine wp_loop_rounds 1 ?_
    rw [rounds_succ]
    go_wp2_with fail
    all_goals
      refine (bworks_any _).mono ?_
      rintro e w4 ⟨rfl, hb4⟩
      have hb4 := Lib.hid (later hbc hb4)
      go_wp2_with fail
      go_ret
      exact ⟨rfl, hb4.out⟩
end Go.Proofs.Ytniiemmgcjkphaa
