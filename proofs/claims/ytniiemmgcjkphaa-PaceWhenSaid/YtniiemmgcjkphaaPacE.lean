/-
  The laws of layer 14: PacePlays.
-/
import Derived.Test.YtniiemmgcjkphaaPacD
import Derived.Test.YtniiemmgcjkphaaRead
namespace Go.Proofs.Ytniiemmgcjkphaa
open Go.RowKit Go.Sort

theorem Rd.at4 {w : World} {A : Option Addr} {n : Nat} {f : Nat → Nat → Int} (h : Rd w A 4 n f) {k : Nat} (hk : k < n) :
    ∃ b off, A = some ⟨b, off, none⟩ ∧ ∀ wx, Below w.heap.size w wx → wx.cell? ⟨b, off + k * 4, none⟩ = some (.int .i64 (f k 0)) ∧ wx.cell? ⟨b, off + k * 4 + 1, none⟩ = some (.int .i64 (f k 1)) ∧ wx.cell? ⟨b, off + k * 4 + 2, none⟩ = some (.int .i64 (f k 2)) ∧ wx.cell? ⟨b, off + k * 4 + 3, none⟩ = some (.int .i64 (f k 3)) := by
  obtain ⟨b, off, rfl, hb, hc⟩ := h (by omega)
  have g : ∀ wx, Below w.heap.size w wx → ∀ j, j < 4 → wx.cell? ⟨b, off + k * 4 + j, none⟩ = some (.int .i64 (f k j)) := fun wx hx j hj => by
    have := (hx.cell (p := ⟨b, _, none⟩) hb).trans (hc k hk j hj)
    rwa [show off + (k * 4 + j) = off + k * 4 + j by omega] at this
  exact ⟨b, off, rfl, fun wx hx => ⟨g wx hx 0 (by omega), g wx hx 1 (by omega), g wx hx 2 (by omega), g wx hx 3 (by omega)⟩⟩

/-- Two pacers and a call's data share nothing. -/
theorem pk_ne {w : World} {p b q c D : Nat} {s s' : Pac.St} {cs : Array Value} (h : Pk w p b s) (h' : RPk w q c s') (hd : Blk w D 69 cs) :
    (q ≠ p ∧ q ≠ b ∧ c ≠ p ∧ c ≠ b) ∧ (D ≠ p ∧ D ≠ b ∧ D ≠ q ∧ D ≠ c) :=
  ⟨⟨Blk.ne_ h'.p h.p (by decide), Blk.ne_ h'.p h.b (by decide), Blk.ne_ h'.b h.p (by decide), Blk.ne_ h'.b h.b (by decide)⟩, ⟨Blk.ne_ hd h.p (by decide), Blk.ne_ hd h.b (by decide), Blk.ne_ hd h'.p (by decide), Blk.ne_ hd h'.b (by decide)⟩⟩

set_option maxHeartbeats 4000000 in
set_option maxRecDepth 100000 in
theorem pplays_any (B t : Int) (A : Option Addr) (n c0 : Nat) (f : Nat → Nat → Int) (w : World) (hn : n ≤ 9223372036854775807) (hr : Rd w A 4 n f) :
    Calls Try.prog 9 #[.int .i64 B, .int .i64 t, .slice A n c0] w fun e w' => e = .returned (.bool true) ∧ Below w.heap.size w w' := by
  have HR := Lib.hid hr
  clear hr
  by_cases hno : Bkt.newOk B t = true
  · go_enter Try.func9, Try.ntmps9
    go_wp2_with fail
    refine (pnew_ok B t _ hno).mono ?_
    rintro e wb ⟨p, b, hp, hb, rfl, lb, bb⟩
    go_wp2_with fail
    refine (rpnew_ok B t _ hno).mono ?_
    rintro e wc ⟨q, c, hq, hc, rfl, lc, bc⟩
    have hq1 : w.heap.size ≤ q := Nat.le_trans bb.size hq
    have hc1 : w.heap.size ≤ c := Nat.le_trans bb.size hc
    clear hq hc
    have hbc := later bb bc
    have lb := lb.kept bc
    have hv := Pac.wf_start hno
    clear bc bb
    replace hbc := Lib.hid hbc
    replace lb := Lib.hid lb
    replace lc := Lib.hid lc
    replace hv := Lib.hid hv
    go_wp2_with fail
    go_loopw [7, 9, 11] (fun a a2 i wr => ∃ (k p b q c : Nat) (s : Pac.St), a = .pointer (some ⟨p, 0, none⟩) ∧ a2 = .pointer (some ⟨q, 0, none⟩) ∧ i = .int .i64 k ∧ k ≤ n ∧ k ≤ 80 ∧ (w.heap.size ≤ p ∧ w.heap.size ≤ b ∧ w.heap.size ≤ q ∧ w.heap.size ≤ c) ∧ Pac.wf s ∧ Pk wr p b s ∧ RPk wr q c s ∧ Below w.heap.size w wr) (fun _ _ i _ => 80 - (intOf i).toNat)
    case atStart => exact ⟨0, p, b, q, c, _, rfl, rfl, rfl, by omega, by omega, ⟨hp, hb, hq1, hc1⟩, hv.out, lb.out, lc.out, hbc.out⟩
    case round =>
      clear hp hb hq1 hc1 lb lc hv hbc
      obtain ⟨k, p, b, q, c, s, rfl, rfl, rfl, hk, hk1, ⟨hp, hb, hq, hc⟩, hv, hl, hm, hbw⟩ := hrel
      replace hl := Lib.hid hl
      replace hm := Lib.hid hm
      replace hbw := Lib.hid hbw
      replace hv := Lib.hid hv
      by_cases hlt : k < n ∧ k < 80
      · obtain ⟨hlt, h100⟩ := hlt
        obtain ⟨ba, off, rfl, hca⟩ := HR.out.at4 hlt
        obtain ⟨y0, y1, y2, y3⟩ := hca _ hbw.out
        clear hca
        have hB := Lib.hid (bring_same (f k 0) 6 (by omega) (by omega))
        have hK0 := Int.emod_nonneg (f k 0) (show (6 : Int) ≠ 0 by omega)
        have hK1 := Int.emod_lt_of_pos (f k 0) (show (0 : Int) < 6 by omega)
        generalize f k 0 = x0 at *
        generalize f k 1 = x1 at *
        generalize f k 2 = x2 at *
        generalize f k 3 = x3 at *
        generalize x0 % 6 = K at *
        rcases (by omega : K = 0 ∨ (K = 1 ∨ K = 2 ∨ K = 3) ∨ K = 4 ∨ K = 5) with rfl | h | rfl | rfl
        · clear hK0 hK1
          go_wp2_with fail
          have hd := Blk.new wr 69 #[.int .i64 x0, .int .i64 x1, .int .i64 x2, .int .i64 x3]
          have hbW := laterA (Below.refl wr.heap.size wr) (.cells #[.int .i64 x0, .int .i64 x1, .int .i64 x2, .int .i64 x3] 69)
          replace hl := Lib.hid (hl.out.kept hbW)
          replace hm := Lib.hid (hm.out.kept hbW)
          replace hbw := Lib.hid (old_later hbw.out hbW hbw.out.size)
          generalize wr.alloc (.cells #[.int .i64 x0, .int .i64 x1, .int .i64 x2, .int .i64 x3] 69) = W at *
          clear hbW y0 y1 y2 y3
          generalize wr.heap.size = D at *
          have e0 := hd.cell 0
          have e1 := hd.cell 1
          have e2 := hd.cell 2
          have e3 := hd.cell 3
          simp at e0 e1 e2 e3
          obtain ⟨⟨n1, n2, n3, n4⟩, n5, n6, n7, n8⟩ := pk_ne hl.out hm.out hd
          replace hd := Lib.hid hd
          clear e0 e1 e2 e3
          have e0 := hd.out.cell 0
          have e1 := hd.out.cell 1
          have e2 := hd.out.cell 2
          have e3 := hd.out.cell 3
          simp at e0 e1 e2 e3
          go_wp2_with fail
          refine (hB.out _).mono ?_
          rintro e w1 ⟨rfl, rfl⟩
          go_wp2_with fail
          refine (pset_any p b s x1 x2 x3 _ hl.out hv.out).mono ?_
          rintro e w2 ⟨rfl, hl2, ho⟩
          replace hl := Lib.hid hl2
          replace hm := Lib.hid (hm.out.only ho (by rintro (h | h); exact n1 h; exact n2 h) (by rintro (h | h); exact n3 h; exact n4 h))
          replace hd := Lib.hid (hd.out.only ho (by rintro (h | h); exact n5 h; exact n6 h))
          replace hbw := Lib.hid (only_old hbw.out ho (by rintro i (rfl | rfl); exact hp; exact hb) hbw.out.size)
          clear ho hl2
          clear e0 e1 e2 e3
          have e0 := hd.out.cell 0
          have e1 := hd.out.cell 1
          have e2 := hd.out.cell 2
          have e3 := hd.out.cell 3
          simp at e0 e1 e2 e3
          go_wp2_with fail
          refine (rpset_any q c s x1 x2 x3 _ hm.out hv.out).mono ?_
          rintro e w3 ⟨rfl, hm3, ho⟩
          replace hm := Lib.hid hm3
          replace hl := Lib.hid (hl.out.only ho (by rintro (h | h); exact n1 h.symm; exact n3 h.symm) (by rintro (h | h); exact n2 h.symm; exact n4 h.symm))
          replace hd := Lib.hid (hd.out.only ho (by rintro (h | h); exact n7 h; exact n8 h))
          replace hbw := Lib.hid (only_old hbw.out ho (by rintro i (rfl | rfl); exact hq; exact hc) hbw.out.size)
          clear ho hm3
          clear e0 e1 e2 e3
          have e0 := hd.out.cell 0
          have e1 := hd.out.cell 1
          have e2 := hd.out.cell 2
          have e3 := hd.out.cell 3
          simp at e0 e1 e2 e3
          go_wp2_with fail
          refine (psame_any p b q c _ x1 x3 _ hl.out hm.out (Pac.wf_set hv.out x1 x2 x3)).mono ?_
          rintro e w9 ⟨rfl, hb9⟩
          replace hl := Lib.hid (hl.out.kept hb9)
          replace hm := Lib.hid (hm.out.kept hb9)
          replace hbw := Lib.hid (old_later hbw.out hb9 hbw.out.size)
          clear hb9 e0 e1 e2 e3
          go_wp2_with fail
          go_roundw
          case rel => exact ⟨k + 1, p, b, q, c, _, rfl, rfl, by go_num, by omega, by omega, ⟨hp, hb, hq, hc⟩, Pac.wf_set hv.out x1 x2 x3, hl.out, hm.out, hbw.out⟩
          case measure => simp [intOf]; omega
        · clear hK0 hK1
          rcases h with rfl | rfl | rfl
          all_goals
            go_wp2_with fail
            have hd := Blk.new wr 69 #[.int .i64 x0, .int .i64 x1, .int .i64 x2, .int .i64 x3]
            have hbW := laterA (Below.refl wr.heap.size wr) (.cells #[.int .i64 x0, .int .i64 x1, .int .i64 x2, .int .i64 x3] 69)
            replace hl := Lib.hid (hl.out.kept hbW)
            replace hm := Lib.hid (hm.out.kept hbW)
            replace hbw := Lib.hid (old_later hbw.out hbW hbw.out.size)
            generalize wr.alloc (.cells #[.int .i64 x0, .int .i64 x1, .int .i64 x2, .int .i64 x3] 69) = W at *
            clear hbW y0 y1 y2 y3
            generalize wr.heap.size = D at *
            have e0 := hd.cell 0
            have e1 := hd.cell 1
            have e2 := hd.cell 2
            have e3 := hd.cell 3
            simp at e0 e1 e2 e3
            obtain ⟨⟨n1, n2, n3, n4⟩, n5, n6, n7, n8⟩ := pk_ne hl.out hm.out hd
            replace hd := Lib.hid hd
            clear e0 e1 e2 e3
            have e0 := hd.out.cell 0
            have e1 := hd.out.cell 1
            have e2 := hd.out.cell 2
            have e3 := hd.out.cell 3
            simp at e0 e1 e2 e3
            go_wp2_with fail
            refine (hB.out _).mono ?_
            rintro e w1 ⟨rfl, rfl⟩
            go_wp2_with fail
            refine (psend_any p b s x1 x3 _ hl.out hv.out).mono ?_
            rintro e w2 ⟨rfl, b2, hx, hl2, ho⟩
            have hb2 : w.heap.size ≤ b2 := by have := hbw.out.size; omega
            have ho' : Only (· = p) _ w2 := Only.of_grown ho rfl
            replace hm := Lib.hid (hm.out.only ho' n1 n3)
            replace hd := Lib.hid (hd.out.only ho' n5)
            replace hbw := Lib.hid (one_old hbw.out ho hp hbw.out.size)
            replace hl := Lib.hid hl2
            clear ho ho' hl2 hx
            obtain ⟨⟨n1, n2, n3, n4⟩, n5, n6, n7, n8⟩ := pk_ne hl.out hm.out hd.out
            clear e0 e1 e2 e3
            have e0 := hd.out.cell 0
            have e1 := hd.out.cell 1
            have e2 := hd.out.cell 2
            have e3 := hd.out.cell 3
            simp at e0 e1 e2 e3
            go_wp2_with fail
            refine (rpsend_any q c s x1 x3 _ hm.out hv.out).mono ?_
            rintro e w3 ⟨rfl, c2, hx, hm3, ho⟩
            have hc2 : w.heap.size ≤ c2 := by have := hbw.out.size; omega
            have ho' : Only (· = q) _ w3 := Only.of_grown ho rfl
            replace hl := Lib.hid (hl.out.only ho' n1.symm n2.symm)
            replace hd := Lib.hid (hd.out.only ho' n7)
            replace hbw := Lib.hid (one_old hbw.out ho hq hbw.out.size)
            replace hm := Lib.hid hm3
            clear ho ho' hm3 hx
            clear e0 e1 e2 e3
            have e0 := hd.out.cell 0
            have e1 := hd.out.cell 1
            have e2 := hd.out.cell 2
            have e3 := hd.out.cell 3
            simp at e0 e1 e2 e3
            go_wp2_with fail
            refine (psame_any p b2 q c2 _ x1 x3 _ hl.out hm.out (Pac.wf_send hv.out x1 x3)).mono ?_
            rintro e w9 ⟨rfl, hb9⟩
            replace hl := Lib.hid (hl.out.kept hb9)
            replace hm := Lib.hid (hm.out.kept hb9)
            replace hbw := Lib.hid (old_later hbw.out hb9 hbw.out.size)
            clear hb9 e0 e1 e2 e3
            go_wp2_with fail
            go_roundw
            case rel => exact ⟨k + 1, p, b2, q, c2, _, rfl, rfl, by go_num, by omega, by omega, ⟨hp, hb2, hq, hc2⟩, Pac.wf_send hv.out x1 x3, hl.out, hm.out, hbw.out⟩
            case measure => simp [intOf]; omega
        · clear hK0 hK1
          go_wp2_with fail
          have hd := Blk.new wr 69 #[.int .i64 x0, .int .i64 x1, .int .i64 x2, .int .i64 x3]
          have hbW := laterA (Below.refl wr.heap.size wr) (.cells #[.int .i64 x0, .int .i64 x1, .int .i64 x2, .int .i64 x3] 69)
          replace hl := Lib.hid (hl.out.kept hbW)
          replace hm := Lib.hid (hm.out.kept hbW)
          replace hbw := Lib.hid (old_later hbw.out hbW hbw.out.size)
          generalize wr.alloc (.cells #[.int .i64 x0, .int .i64 x1, .int .i64 x2, .int .i64 x3] 69) = W at *
          clear hbW y0 y1 y2 y3
          generalize wr.heap.size = D at *
          have e0 := hd.cell 0
          have e1 := hd.cell 1
          have e2 := hd.cell 2
          have e3 := hd.cell 3
          simp at e0 e1 e2 e3
          obtain ⟨⟨n1, n2, n3, n4⟩, n5, n6, n7, n8⟩ := pk_ne hl.out hm.out hd
          replace hd := Lib.hid hd
          clear e0 e1 e2 e3
          have e0 := hd.out.cell 0
          have e1 := hd.out.cell 1
          have e2 := hd.out.cell 2
          have e3 := hd.out.cell 3
          simp at e0 e1 e2 e3
          go_wp2_with fail
          refine (hB.out _).mono ?_
          rintro e w1 ⟨rfl, rfl⟩
          go_wp2_with fail
          refine (pcopy_any p b s _ hl.out hv.out).mono ?_
          rintro e w2 ⟨p2, b2, hp2, hb2, rfl, hl2, hbm⟩
          have np : p2 ≠ p := by have := Blk.lt hl.out.p; omega
          have nb : b2 ≠ p := by have := Blk.lt hl.out.p; omega
          have hp2' : w.heap.size ≤ p2 := by have := hbw.out.size; omega
          have hb2' : w.heap.size ≤ b2 := by have := hbw.out.size; omega
          replace hl := Lib.hid (hl.out.kept hbm)
          replace hm := Lib.hid (hm.out.kept hbm)
          replace hd := Lib.hid (hd.out.later hbm)
          replace hbw := Lib.hid (old_later hbw.out hbm hbw.out.size)
          replace hl2 := Lib.hid hl2
          clear hbm hp2 hb2
          go_wp2_with fail
          refine (rpcopy_any q c s _ hm.out).mono ?_
          rintro e w3 ⟨q2, c2, hq2, hc2, rfl, hm2, hbm⟩
          have nq : q2 ≠ p := by have := Blk.lt hl.out.p; omega
          have nc : c2 ≠ p := by have := Blk.lt hl.out.p; omega
          have hq2' : w.heap.size ≤ q2 := by have := hbw.out.size; omega
          have hc2' : w.heap.size ≤ c2 := by have := hbw.out.size; omega
          replace hl := Lib.hid (hl.out.kept hbm)
          replace hl2 := Lib.hid (hl2.out.kept hbm)
          replace hd := Lib.hid (hd.out.later hbm)
          replace hbw := Lib.hid (old_later hbw.out hbm hbw.out.size)
          replace hm := Lib.hid hm2
          clear hbm hq2 hc2 hm2
          clear e0 e1 e2 e3
          have e0 := hd.out.cell 0
          have e1 := hd.out.cell 1
          have e2 := hd.out.cell 2
          have e3 := hd.out.cell 3
          simp at e0 e1 e2 e3
          go_wp2_with fail
          refine (psend_any p b s x1 x3 _ hl.out hv.out).mono ?_
          rintro e w4 ⟨rfl, b3, hx, hl3, ho⟩
          have ho' : Only (· = p) _ w4 := Only.of_grown ho rfl
          replace hm := Lib.hid (hm.out.only ho' nq nc)
          replace hd := Lib.hid (hd.out.only ho' n5)
          replace hbw := Lib.hid (one_old hbw.out ho hp hbw.out.size)
          replace hl := Lib.hid (hl2.out.only ho' np nb)
          clear ho ho' hl3 hx hl2
          clear e0 e1 e2 e3
          have e0 := hd.out.cell 0
          have e1 := hd.out.cell 1
          have e2 := hd.out.cell 2
          have e3 := hd.out.cell 3
          simp at e0 e1 e2 e3
          go_wp2_with fail
          refine (psame_any p2 b2 q2 c2 _ x1 x3 _ hl.out hm.out (hv.out)).mono ?_
          rintro e w9 ⟨rfl, hb9⟩
          replace hl := Lib.hid (hl.out.kept hb9)
          replace hm := Lib.hid (hm.out.kept hb9)
          replace hbw := Lib.hid (old_later hbw.out hb9 hbw.out.size)
          clear hb9 e0 e1 e2 e3
          go_wp2_with fail
          go_roundw
          case rel => exact ⟨k + 1, p2, b2, q2, c2, s, rfl, rfl, by go_num, by omega, by omega, ⟨hp2', hb2', hq2', hc2'⟩, hv.out, hl.out, hm.out, hbw.out⟩
          case measure => simp [intOf]; omega
        · clear hK0 hK1
          go_wp2_with fail
          have hd := Blk.new wr 69 #[.int .i64 x0, .int .i64 x1, .int .i64 x2, .int .i64 x3]
          have hbW := laterA (Below.refl wr.heap.size wr) (.cells #[.int .i64 x0, .int .i64 x1, .int .i64 x2, .int .i64 x3] 69)
          replace hl := Lib.hid (hl.out.kept hbW)
          replace hm := Lib.hid (hm.out.kept hbW)
          replace hbw := Lib.hid (old_later hbw.out hbW hbw.out.size)
          generalize wr.alloc (.cells #[.int .i64 x0, .int .i64 x1, .int .i64 x2, .int .i64 x3] 69) = W at *
          clear hbW y0 y1 y2 y3
          generalize wr.heap.size = D at *
          have e0 := hd.cell 0
          have e1 := hd.cell 1
          have e2 := hd.cell 2
          have e3 := hd.cell 3
          simp at e0 e1 e2 e3
          obtain ⟨⟨n1, n2, n3, n4⟩, n5, n6, n7, n8⟩ := pk_ne hl.out hm.out hd
          replace hd := Lib.hid hd
          clear e0 e1 e2 e3
          have e0 := hd.out.cell 0
          have e1 := hd.out.cell 1
          have e2 := hd.out.cell 2
          have e3 := hd.out.cell 3
          simp at e0 e1 e2 e3
          go_wp2_with fail
          refine (hB.out _).mono ?_
          rintro e w1 ⟨rfl, rfl⟩
          go_wp2_with fail
          refine (psame_any p b q c _ x1 x3 _ hl.out hm.out (hv.out)).mono ?_
          rintro e w9 ⟨rfl, hb9⟩
          replace hl := Lib.hid (hl.out.kept hb9)
          replace hm := Lib.hid (hm.out.kept hb9)
          replace hbw := Lib.hid (old_later hbw.out hb9 hbw.out.size)
          clear hb9 e0 e1 e2 e3
          go_wp2_with fail
          go_roundw
          case rel => exact ⟨k + 1, p, b, q, c, s, rfl, rfl, by go_num, by omega, by omega, ⟨hp, hb, hq, hc⟩, hv.out, hl.out, hm.out, hbw.out⟩
          case measure => simp [intOf]; omega
      · have hcase : ¬ k < n ∨ (k < n ∧ ¬ k < 80) := by omega
        clear hlt
        rcases hcase with g1 | ⟨g1, g2⟩
        all_goals
          go_wp2_with fail
          refine (psame_any p b q c s 9007199254740991 65535 _ hl.out hm.out hv.out).mono ?_
          rintro e w3 ⟨rfl, hb3⟩
          replace hbw := Lib.hid (old_later hbw.out hb3 hbw.out.size)
          clear hb3
          go_wp2_with fail
          refine (pworks_any _).mono ?_
          rintro e w4 ⟨rfl, hb4⟩
          replace hbw := Lib.hid (old_later hbw.out hb4 hbw.out.size)
          clear hb4
          go_wp2_with fail
          go_ret
          exact ⟨rfl, hbw.out⟩
  · have hno' : Bkt.newOk B t = false := by simpa using hno
    go_enter Try.func9, Try.ntmps9
    go_wp2_with fail
    refine (pnew_no B t _ hno').mono ?_
    rintro e wb ⟨rfl, bb⟩
    go_wp2_with fail
    refine (rpnew_no B t _ hno').mono ?_
    rintro e wc ⟨rfl, bc⟩
    have hbc := Lib.hid (later bb bc)
    clear bb bc
    go_wp2_with fail
    refine (pworks_any _).mono ?_
    rintro e w4 ⟨rfl, hb4⟩
    replace hbc := Lib.hid (later hbc.out hb4)
    clear hb4
    go_wp2_with fail
    go_ret
    exact ⟨rfl, hbc.out⟩
end Go.Proofs.Ytniiemmgcjkphaa
