/-
  The laws of layer 15: AmplPlays.
-/
import Derived.Test.YthlpjpcmbpbplaaAmpE
import Derived.Deep.RegionHeld3
namespace Go.Proofs.Ythlpjpcmbpbplaa
open Go.RowKit Go.Sort

theorem Rd.at2 {w : World} {A : Option Addr} {n : Nat} {f : Nat → Nat → Int} (h : Rd w A 2 n f) {k : Nat} (hk : k < n) :
    ∃ b off, A = some ⟨b, off, none⟩ ∧ ∀ wx, Below w.heap.size w wx → wx.cell? ⟨b, off + k * 2, none⟩ = some (.int .i64 (f k 0)) ∧ wx.cell? ⟨b, off + k * 2 + 1, none⟩ = some (.int .i64 (f k 1)) := by
  obtain ⟨b, off, rfl, hb, hc⟩ := h (by omega)
  refine ⟨b, off, rfl, fun wx hx => ⟨(hx.cell (p := ⟨b, _, none⟩) hb).trans ?_, (hx.cell (p := ⟨b, _, none⟩) hb).trans ?_⟩⟩
  · exact hc k hk 0 (by omega)
  · have := hc k hk 1 (by omega)
    rwa [show off + (k * 2 + 1) = off + k * 2 + 1 by omega] at this

theorem Lim.kept {w w' : World} {b : Nat} {g s : Int} {v : Bool} (h : Lim w b g s v) (hb : Below w.heap.size w w') : Lim w' b g s v := h.later hb
theorem RLim.kept {w w' : World} {b : Nat} {g s : Int} {v : Bool} (h : RLim w b g s v) (hb : Below w.heap.size w w') : RLim w' b g s v := h.later hb
theorem Lim.but {w w' : World} {b b' : Nat} {g s : Int} {v : Bool} (h : Lim w b g s v) (ho : w.grownBy w' (some b')) (hne : b ≠ b') : Lim w' b g s v := h.one ho hne
theorem RLim.but {w w' : World} {b b' : Nat} {g s : Int} {v : Bool} (h : RLim w b g s v) (ho : w.grownBy w' (some b')) (hne : b ≠ b') : RLim w' b g s v := h.one ho hne
theorem Lim.drew {w : World} {b : Nat} {g s : Int} {v : Bool} (h : Lim w b g s v) : Lim w.drew b g s v := h
theorem RLim.drew {w : World} {b : Nat} {g s : Int} {v : Bool} (h : RLim w b g s v) : RLim w.drew b g s v := h
theorem one_undrew {a b : World} {row : Option Nat} (h : a.drew.grownBy b row) : a.grownBy b row := ⟨h.os, h.tape, h.output, h.size, h.block⟩

set_option maxHeartbeats 4000000 in
set_option maxRecDepth 100000 in
theorem plays_any (valid : Bool) (A : Option Addr) (n c : Nat) (f : Nat → Nat → Int) (w : World) (hn : n ≤ 9223372036854775807) (hr : Rd w A 2 n f) :
    Calls Try.prog 7 #[.bool valid, .slice A n c] w fun e w' => e = .returned (.bool true) ∧ Below w.heap.size w w' := by
  have HR := Lib.hid hr
  clear hr
  go_enter Try.func7, Try.ntmps7
  go_wp2_with fail
  refine (new_any valid _).mono ?_
  rintro e wb ⟨rfl, lb, bb⟩
  go_wp2_with fail
  refine (rnew_any valid _).mono ?_
  rintro e wc ⟨rfl, lc, bc⟩
  go_wp2_with fail
  have hLL : w.heap.size < wb.heap.size := Blk.lt lb
  have hbc := later bb bc
  have lb := Blk.later lb bc
  generalize wb.heap.size = M at *
  clear bc bb
  go_loopw [5, 7] (fun a i wr => ∃ (k L : Nat) (g s : Int) (v : Bool), a = .pointer (some ⟨L, 0, none⟩) ∧ i = .int .i64 k ∧ k ≤ n ∧ k ≤ 100 ∧ w.heap.size ≤ L ∧ Lim wr L g s v ∧ RLim wr M g s v ∧ Below w.heap.size w wr) (fun _ i _ => 100 - (intOf i).toNat)
  case atStart => exact ⟨0, w.heap.size, 0, 0, valid, rfl, rfl, by omega, by omega, by omega, lb, lc, hbc⟩
  case round =>
    obtain ⟨k, L, g, s, v, rfl, rfl, hk, hk1, hL, hl, hm, hbw⟩ := hrel
    clear lb lc hbc
    have hne := Blk.ne_ hl hm (by decide)
    have hl := Lib.hid hl
    have hm := Lib.hid hm
    have hbw := Lib.hid hbw
    by_cases hlt : k < n ∧ k < 100
    · obtain ⟨hlt, h100⟩ := hlt
      obtain ⟨b, off, rfl, hc⟩ := HR.out.at2 hlt
      obtain ⟨x1, y1⟩ := hc _ hbw.out
      clear hc
      have hB := Lib.hid (bring_same (f k 0) 8 (by omega) (by omega))
      have hK0 := Int.emod_nonneg (f k 0) (show (8 : Int) ≠ 0 by omega)
      have hK1 := Int.emod_lt_of_pos (f k 0) (show (0 : Int) < 8 by omega)
      generalize f k 0 = x at *
      generalize f k 1 = y at *
      generalize x % 8 = K at *
      rcases (by omega : (K = 0 ∨ K = 1 ∨ K = 2) ∨ (K = 3 ∨ K = 4 ∨ K = 5) ∨ K = 6 ∨ K = 7) with h | h | rfl | rfl
      · clear hK0 hK1
        rcases h with rfl | rfl | rfl
        all_goals
          go_wp2_with fail
          refine (hB.out _).mono ?_
          rintro e w1 ⟨rfl, rfl⟩
          go_wp2_with fail
          have hd := Blk.new wr 42 #[.int .i64 x, .int .i64 y]
          have hbW := laterA (Below.refl wr.heap.size wr) (.cells #[.int .i64 x, .int .i64 y] 42)
          have hl1 := Lib.hid (hl.out.kept hbW)
          have hm1 := Lib.hid (hm.out.kept hbW)
          have hb1 := Lib.hid (old_later hbw.out hbW hbw.out.size)
          have n1 : wr.heap.size ≠ L := by have := Blk.lt hl.out; omega
          have n2 : wr.heap.size ≠ M := by have := Blk.lt hm.out; omega
          generalize wr.alloc (.cells #[.int .i64 x, .int .i64 y] 42) = W at *
          clear hbW hl hm hbw x1 y1
          generalize wr.heap.size = D at *
          have e1 := hd.cell 1
          simp at e1
          have hd := Lib.hid hd
          have hl1d := Lib.hid hl1.out.drew
          go_region_held3 (fun w' => w'.cell? ⟨D, 1, none⟩ = some (.int .i64 y)) (first | exact e1 | exact e2 | exact e3) (first | (go_at_call 12; (with_reducible refine (got_any _ _ _ y _ _ hl1d.out).mono ?_); rintro e w2 ⟨rfl, hl2, ho2⟩; have ho2 := one_undrew ho2; have hd2 := hd.out.one ho2 n1; have e2 := hd2.cell 1; simp at e2; have hd2 := Lib.hid hd2; have hm2 := Lib.hid (hm1.out.but ho2 (Ne.symm hne)); have hl2 := Lib.hid hl2; have hb2 := Lib.hid (one_old hb1.out ho2 hL hb1.out.size); clear ho2) | (go_at_call 21; (with_reducible refine (rgot_any _ _ _ y _ _ hm2.out).mono ?_); rintro e w3 ⟨rfl, hm3, ho3⟩; have hd3 := hd2.out.one ho3 n2; have e3 := hd3.cell 1; simp at e3; have hd3 := Lib.hid hd3; have hl3 := Lib.hid (hl2.out.but ho3 hne); have hm3 := Lib.hid hm3; have hb3 := Lib.hid (one_old hb2.out ho3 (by omega) hb2.out.size); clear ho3))
          go_wp2_with fail
          refine (same_any _ _ _ _ y _ _ hl3.out hm3.out).mono ?_
          rintro e w9 ⟨rfl, hb9⟩
          have hl9 := Lib.hid (hl3.out.kept hb9)
          have hm9 := Lib.hid (hm3.out.kept hb9)
          have hb9 := Lib.hid (old_later hb3.out hb9 hb3.out.size)
          go_wp2_with fail
          go_roundw
          case rel => exact ⟨k + 1, L, Amp.gotG g y, s, v, rfl, by go_num, by omega, by omega, by omega, hl9.out, hm9.out, hb9.out⟩
          case measure => simp [intOf]; omega
      · clear hK0 hK1
        rcases h with rfl | rfl | rfl
        all_goals
          go_wp2_with fail
          refine (hB.out _).mono ?_
          rintro e w1 ⟨rfl, rfl⟩
          go_wp2_with fail
          have hd := Blk.new wr 42 #[.int .i64 x, .int .i64 y]
          have hbW := laterA (Below.refl wr.heap.size wr) (.cells #[.int .i64 x, .int .i64 y] 42)
          have hl1 := Lib.hid (hl.out.kept hbW)
          have hm1 := Lib.hid (hm.out.kept hbW)
          have hb1 := Lib.hid (old_later hbw.out hbW hbw.out.size)
          have n1 : wr.heap.size ≠ L := by have := Blk.lt hl.out; omega
          have n2 : wr.heap.size ≠ M := by have := Blk.lt hm.out; omega
          generalize wr.alloc (.cells #[.int .i64 x, .int .i64 y] 42) = W at *
          clear hbW hl hm hbw x1 y1
          generalize wr.heap.size = D at *
          have e1 := hd.cell 1
          simp at e1
          have hd := Lib.hid hd
          have hl1d := Lib.hid hl1.out.drew
          go_region_held3 (fun w' => w'.cell? ⟨D, 1, none⟩ = some (.int .i64 y)) (first | exact e1 | exact e2 | exact e3) (first | (go_at_call 13; (with_reducible refine (sent_any _ _ _ y _ _ hl1d.out).mono ?_); rintro e w2 ⟨rfl, hl2, ho2⟩; have ho2 := one_undrew ho2; have hd2 := hd.out.one ho2 n1; have e2 := hd2.cell 1; simp at e2; have hd2 := Lib.hid hd2; have hm2 := Lib.hid (hm1.out.but ho2 (Ne.symm hne)); have hl2 := Lib.hid hl2; have hb2 := Lib.hid (one_old hb1.out ho2 hL hb1.out.size); clear ho2) | (go_at_call 22; (with_reducible refine (rsent_any _ _ _ y _ _ hm2.out).mono ?_); rintro e w3 ⟨rfl, hm3, ho3⟩; have hd3 := hd2.out.one ho3 n2; have e3 := hd3.cell 1; simp at e3; have hd3 := Lib.hid hd3; have hl3 := Lib.hid (hl2.out.but ho3 hne); have hm3 := Lib.hid hm3; have hb3 := Lib.hid (one_old hb2.out ho3 (by omega) hb2.out.size); clear ho3))
          go_wp2_with fail
          refine (same_any _ _ _ _ y _ _ hl3.out hm3.out).mono ?_
          rintro e w9 ⟨rfl, hb9⟩
          have hl9 := Lib.hid (hl3.out.kept hb9)
          have hm9 := Lib.hid (hm3.out.kept hb9)
          have hb9 := Lib.hid (old_later hb3.out hb9 hb3.out.size)
          go_wp2_with fail
          go_roundw
          case rel => exact ⟨k + 1, L, g, Amp.sentS v g s y, v, rfl, by go_num, by omega, by omega, by omega, hl9.out, hm9.out, hb9.out⟩
          case measure => simp [intOf]; omega
      · clear hK0 hK1
        go_wp2_with fail
        refine (hB.out _).mono ?_
        rintro e w1 ⟨rfl, rfl⟩
        go_wp2_with fail
        have hd := Blk.new wr 42 #[.int .i64 x, .int .i64 y]
        have hbW := laterA (Below.refl wr.heap.size wr) (.cells #[.int .i64 x, .int .i64 y] 42)
        have hl1 := Lib.hid (hl.out.kept hbW)
        have hm1 := Lib.hid (hm.out.kept hbW)
        have hb1 := Lib.hid (old_later hbw.out hbW hbw.out.size)
        have n1 : wr.heap.size ≠ L := by have := Blk.lt hl.out; omega
        have n2 : wr.heap.size ≠ M := by have := Blk.lt hm.out; omega
        generalize wr.alloc (.cells #[.int .i64 x, .int .i64 y] 42) = W at *
        clear hbW hl hm hbw x1 y1
        generalize wr.heap.size = D at *
        have e1 := hd.cell 1
        simp at e1
        have hd := Lib.hid hd
        have hl1d := Lib.hid hl1.out.drew
        go_wp2_with fail
        refine (rcopy_any M g s v _ hm1.out).mono ?_
        rintro e w2 ⟨rfl, rp2, ra2⟩
        have q1 := Blk.lt hl1.out
        have q2 := Blk.lt hm1.out
        have q3 := Blk.lt hd.out
        have p1 : W.heap.size ≠ M := by omega
        have p2 : D ≠ W.heap.size := by omega
        have q4 := hb1.out.size
        have p3 : w.heap.size ≤ W.heap.size := by omega
        have hl2 := Lib.hid (hl1.out.kept ra2)
        have hm2 := Lib.hid (hm1.out.kept ra2)
        have hd2 := Lib.hid (hd.out.later ra2)
        have hb2 := Lib.hid (old_later hb1.out ra2 hb1.out.size)
        have hp2 := Lib.hid rp2
        clear ra2 rp2 e1 hl1 hm1 hd hb1 hl1d q1 q2 q3 q4
        generalize W.heap.size = P at *
        go_wp2_with fail
        refine (copy_any L g s v _ hl2.out).mono ?_
        rintro e w3 ⟨rfl, rq3, ra3⟩
        have q1 := Blk.lt hl2.out
        have q2 := Blk.lt hm2.out
        have q3 := Blk.lt hd2.out
        have q4 := Blk.lt hp2.out
        have q5 := hb2.out.size
        have r1 : w2.heap.size ≠ L := by omega
        have r2 : w2.heap.size ≠ P := by omega
        have r3 : w.heap.size ≤ w2.heap.size := by omega
        have hl3 := Lib.hid (hl2.out.kept ra3)
        have hm3 := Lib.hid (hm2.out.kept ra3)
        have hp3 := Lib.hid (hp2.out.kept ra3)
        have hd3 := hd2.out.later ra3
        have e3 := hd3.cell 1
        simp at e3
        have hd3 := Lib.hid hd3
        have hb3 := Lib.hid (old_later hb2.out ra3 hb2.out.size)
        have hq3 := Lib.hid rq3
        clear ra3 rq3 hl2 hm2 hd2 hb2 hp2 q1 q2 q3 q4 q5
        generalize w2.heap.size = Q at *
        have hl3d := Lib.hid hl3.out.drew
        have t1 := Blk.ne_ hl3.out hp3.out (by decide)
        go_wp2_with fail
        go_region_held3 (fun w' => w'.cell? ⟨D, 1, none⟩ = some (.int .i64 y)) (first | exact e3 | exact e4 | exact e5 | exact e6) (first | (go_at_call 12; (with_reducible refine (got_any _ _ _ y _ _ hl3d.out).mono ?_); rintro e w4 ⟨rfl, hl4, ho4⟩; have ho4 := one_undrew ho4; have hd4 := hd3.out.one ho4 n1; have e4 := hd4.cell 1; simp at e4; have hd4 := Lib.hid hd4; have hm4 := Lib.hid (hm3.out.but ho4 (Ne.symm hne)); have hp4 := Lib.hid (hp3.out.but ho4 (Ne.symm t1)); have hq4 := Lib.hid (hq3.out.but ho4 r1); have hl4 := Lib.hid hl4; have hb4 := Lib.hid (one_old hb3.out ho4 hL hb3.out.size); clear ho4) | (go_at_call 21; (with_reducible refine (rgot_any _ _ _ y _ _ hp4.out).mono ?_); rintro e w5 ⟨rfl, hp5, ho5⟩; have hd5 := hd4.out.one ho5 p2; have e5 := hd5.cell 1; simp at e5; have hd5 := Lib.hid hd5; have hl5 := Lib.hid (hl4.out.but ho5 t1); have hm5 := Lib.hid (hm4.out.but ho5 (Ne.symm p1)); have hq5 := Lib.hid (hq4.out.but ho5 r2); have hp5 := Lib.hid hp5; have hb5 := Lib.hid (one_old hb4.out ho5 (by omega) hb4.out.size); clear ho5) | (go_at_call 25; (with_reducible refine (same_any _ _ _ _ y _ _ hl5.out hp5.out).mono ?_); rintro e w6 ⟨rfl, ho6⟩; have hd6 := hd5.out.later ho6; have e6 := hd6.cell 1; simp at e6; have hd6 := Lib.hid hd6; have hm6 := Lib.hid (hm5.out.kept ho6); have hq6 := Lib.hid (hq5.out.kept ho6); have hb6 := Lib.hid (old_later hb5.out ho6 hb5.out.size); clear ho6))
        have hl6 := hq6
        go_wp2_with fail
        refine (same_any _ _ _ _ y _ _ hl6.out hm6.out).mono ?_
        rintro e w9 ⟨rfl, hb9⟩
        have hl9 := Lib.hid (hl6.out.kept hb9)
        have hm9 := Lib.hid (hm6.out.kept hb9)
        have hb9 := Lib.hid (old_later hb6.out hb9 hb6.out.size)
        go_wp2_with fail
        go_roundw
        case rel => exact ⟨k + 1, Q, g, s, v, rfl, by go_num, by omega, by omega, by omega, hl9.out, hm9.out, hb9.out⟩
        case measure => simp [intOf]; omega
      · clear hK0 hK1
        go_wp2_with fail
        refine (hB.out _).mono ?_
        rintro e w1 ⟨rfl, rfl⟩
        go_wp2_with fail
        have hd := Blk.new wr 42 #[.int .i64 x, .int .i64 y]
        have hbW := laterA (Below.refl wr.heap.size wr) (.cells #[.int .i64 x, .int .i64 y] 42)
        have hl1 := Lib.hid (hl.out.kept hbW)
        have hm1 := Lib.hid (hm.out.kept hbW)
        have hb1 := Lib.hid (old_later hbw.out hbW hbw.out.size)
        have n1 : wr.heap.size ≠ L := by have := Blk.lt hl.out; omega
        have n2 : wr.heap.size ≠ M := by have := Blk.lt hm.out; omega
        generalize wr.alloc (.cells #[.int .i64 x, .int .i64 y] 42) = W at *
        clear hbW hl hm hbw x1 y1
        generalize wr.heap.size = D at *
        have e1 := hd.cell 1
        simp at e1
        have hd := Lib.hid hd
        have hl1d := Lib.hid hl1.out.drew
        have hR := Lib.hid (bring_same y 6 (by omega) (by omega))
        generalize y % 6 = R at *
        go_wp2_with fail
        refine (hR.out _).mono ?_
        rintro e w1 ⟨rfl, rfl⟩
        by_cases h5 : R = 5
        · subst h5
          go_wp2_with fail
          refine (validate_any _ _ _ _ _ hl1.out).mono ?_
          rintro e w2 ⟨rfl, hl2, ho2⟩
          have hd2 := hd.out.one ho2 n1
          have e2 := hd2.cell 1
          simp at e2
          have hd2 := Lib.hid hd2
          have hm2 := Lib.hid (hm1.out.but ho2 (Ne.symm hne))
          have hl2 := Lib.hid hl2
          have hb2 := Lib.hid (one_old hb1.out ho2 hL hb1.out.size)
          clear ho2 e1
          go_wp2_with fail
          refine (rvalidate_any _ _ _ _ _ hm2.out).mono ?_
          rintro e w3 ⟨rfl, hm3, ho3⟩
          have hd3 := hd2.out.one ho3 n2
          have e3 := hd3.cell 1
          simp at e3
          have hl3 := Lib.hid (hl2.out.but ho3 hne)
          have hm3 := Lib.hid hm3
          have hb3 := Lib.hid (one_old hb2.out ho3 (by omega) hb2.out.size)
          clear ho3 e2
          go_wp2_with fail
          refine (same_any _ _ _ _ y _ _ hl3.out hm3.out).mono ?_
          rintro e w9 ⟨rfl, hb9⟩
          have hl9 := Lib.hid (hl3.out.kept hb9)
          have hm9 := Lib.hid (hm3.out.kept hb9)
          have hb9 := Lib.hid (old_later hb3.out hb9 hb3.out.size)
          go_wp2_with fail
          go_roundw
          case rel => exact ⟨k + 1, L, g, s, true, rfl, by go_num, by omega, by omega, by omega, hl9.out, hm9.out, hb9.out⟩
          case measure => simp [intOf]; omega
        · have h5' : (R == 5) = false := by simp [h5]
          go_wp2_with fail
          refine (same_any _ _ _ _ y _ _ hl1.out hm1.out).mono ?_
          rintro e w9 ⟨rfl, hb9⟩
          have hl9 := Lib.hid (hl1.out.kept hb9)
          have hm9 := Lib.hid (hm1.out.kept hb9)
          have hb9 := Lib.hid (old_later hb1.out hb9 hb1.out.size)
          go_wp2_with fail
          go_roundw
          case rel => exact ⟨k + 1, L, g, s, v, rfl, by go_num, by omega, by omega, by omega, hl9.out, hm9.out, hb9.out⟩
          case measure => simp [intOf]; omega
    · have hcase : ¬ k < n ∨ (k < n ∧ ¬ k < 100) := by omega
      clear hlt
      rcases hcase with g1 | ⟨g1, g2⟩
      all_goals
        go_wp2_with fail
        refine (works_any _).mono ?_
        rintro e w4 ⟨rfl, hb4⟩
        have hb4 := Lib.hid (old_later hbw.out hb4 hbw.out.size)
        go_wp2_with fail
        go_ret
        exact ⟨rfl, hb4.out⟩
end Go.Proofs.Ythlpjpcmbpbplaa
