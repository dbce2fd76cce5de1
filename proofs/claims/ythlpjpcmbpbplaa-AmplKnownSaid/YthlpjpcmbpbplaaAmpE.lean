/-
  The laws of layer 15: AmplRises.
-/
import Derived.Test.YthlpjpcmbpbplaaAmpD
namespace Go.Proofs.Ythlpjpcmbpbplaa
open Go.RowKit Go.Sort

theorem lsize_to (x n : Int) (h : x % 65536 = n) (w : World) :
    Calls Try.prog 16 #[.int .i64 x] w fun e w' => e = .returned (.int .i64 n) ∧ w = w' := by subst h; exact lsize_same x w
theorem size_of (x : Int) : ∃ n : Int, x % 65536 = n ∧ 0 ≤ n ∧ n ≤ 65535 := by
  have h0 := Int.emod_nonneg x (show (65536 : Int) ≠ 0 by omega)
  have h1 := Int.emod_lt_of_pos x (show (0 : Int) < 65536 by omega)
  exact ⟨_, rfl, by omega, by omega⟩

set_option maxRecDepth 100000 in
theorem rises_any (A : Option Addr) (n c : Nat) (f : Nat → Nat → Int) (x y : Int) (w : World) (hn : n ≤ 9223372036854775807) (hr : Rd w A 1 n f) :
    Calls Try.prog 5 #[.slice A n c, .int .i64 x, .int .i64 y] w fun e w' => e = .returned (.bool true) ∧ Below w.heap.size w w' := by
  have HR := Lib.hid hr
  clear hr
  obtain ⟨N, hN, N0, N1⟩ := size_of x
  obtain ⟨M, hM, M0, M1⟩ := size_of y
  have sN := Lib.hid (lsize_to x N hN)
  have sM := Lib.hid (lsize_to y M hM)
  clear hN hM
  go_enter Try.func5, Try.ntmps5
  go_wp2_with fail
  refine (new_any false _).mono ?_
  rintro e wb ⟨rfl, lb, bb⟩
  go_wp2_with fail
  go_loopw [8] (fun i wr => ∃ (k : Nat) (G : Int), i = .int .i64 k ∧ k ≤ n ∧ k ≤ 20 ∧ 0 ≤ G ∧ G ≤ 65535 * (k : Int) ∧ Lim wr w.heap.size G 0 false ∧ Below w.heap.size w wr) (fun i _ => 20 - (intOf i).toNat)
  case atStart => exact ⟨0, 0, rfl, by omega, by omega, by omega, by omega, lb, bb⟩
  case round =>
    obtain ⟨k, G, rfl, hk, hk1, hG0, hG, hl, hbw⟩ := hrel
    have szr : w.heap.size ≤ wr.heap.size := hbw.size
    have hl := Lib.hid hl
    have hbw := Lib.hid hbw
    by_cases hlt : k < n ∧ k < 20
    · obtain ⟨hlt, h20⟩ := hlt
      obtain ⟨b, off, rfl, hb, hc⟩ := (HR.out.later hbw.out) (by omega)
      have hx := hc k hlt 0 (by omega)
      rw [show off + (k * 1 + 0) = off + k by omega] at hx
      clear hc
      obtain ⟨m, hm, m0, m1⟩ := size_of (f k 0)
      have sm := Lib.hid (lsize_to (f k 0) m hm)
      clear hm
      generalize f k 0 = z at *
      have hg := Lib.hid (got_to w.heap.size G 0 m (G + m) 0 false _ (Amp.gotE_ok m0 m1) (Amp.gotG_ok (by omega) (by omega) m0 m1) hl.out)
      go_wp2_with (first | (go_at_call 16; (with_reducible refine (sm.out _).mono ?_); rintro e w1 ⟨rfl, rfl⟩) | (go_at_call 12; (with_reducible refine hg.out.mono ?_); rintro e w2 ⟨rfl, hl2, ho2⟩; have hb2 := Lib.hid (one_old hbw.out ho2 (Nat.le_refl _) szr); have hl2 := Lib.hid hl2; clear ho2))
      go_roundw
      case rel => exact ⟨k + 1, G + m, by go_num, by omega, by omega, by omega, by omega, hl2.out, hb2.out⟩
      case measure => simp [intOf]; omega
    · have el := Amp.left_small hG0 (by omega) (show (0 : Int) ≤ 0 by omega) (by omega)
      obtain ⟨K, hK, K0, K1, K2⟩ : ∃ K : Int, min N (3 * G - 0) = K ∧ 0 ≤ K ∧ K ≤ 65535 ∧ K ≤ 3 * G := ⟨_, rfl, by omega, by omega, by omega⟩
      have hK' : min N (3 * G) = K := by omega
      have hLe := Lib.hid (left_to _ _ _ (3 * G) _ _ (by rw [el]; omega) hl.out)
      have hcase : ¬ k < n ∨ (k < n ∧ ¬ k < 20) := by omega
      clear hlt
      rcases hcase with h1 | ⟨h1, h2⟩
      all_goals
        go_wp2_with fail
        refine hLe.out.mono ?_
        rintro e w1 ⟨rfl, hb1⟩
        have hl1 := Lib.hid (hl.out.later hb1)
        have hb1 := Lib.hid (old_later hbw.out hb1 szr)
        have hC := Lib.hid (can_to _ _ _ K _ true _ (Amp.can_ok K0 K1 (by rw [el]; omega)) hl1.out)
        go_wp2_with (first | (go_at_call 16; (with_reducible refine (sN.out _).mono ?_); rintro e w1 ⟨rfl, rfl⟩) | (go_at_call 17; (with_reducible refine hC.out.mono ?_); rintro e w2 ⟨rfl, hb2⟩; have hl2 := Lib.hid (hl1.out.later hb2); have hb2 := Lib.hid (old_later hb1.out hb2 hb1.out.size); have hS := Lib.hid (sent_to _ _ _ K K 0 _ _ (Amp.sentE_ok K0 K1 (by rw [el]; omega)) ((Amp.sentS_ok K0 K1 (by rw [el]; omega) (by omega) (by omega)).trans (Int.zero_add K)) hl2.out)) | (go_at_call 13; (with_reducible refine hS.out.mono ?_); rintro e w3 ⟨rfl, hl3, ho3⟩; have hb3 := Lib.hid (one_old hb2.out ho3 (Nat.le_refl _) hb2.out.size); clear ho3; have hl3 := Lib.hid hl3; have hL3 := Lib.hid (left_to _ _ _ (3 * G - K) _ _ (Amp.left_small hG0 (by omega) K0 (by omega)) hl3.out)) | fail)
        refine hL3.out.mono ?_
        rintro e w4 ⟨rfl, hb4⟩
        have hl4 := Lib.hid (hl3.out.later hb4)
        have hb4 := Lib.hid (old_later hb3.out hb4 hb3.out.size)
        have hgM := Lib.hid (got_to _ _ _ M (G + M) 0 _ _ (Amp.gotE_ok M0 M1) (Amp.gotG_ok hG0 (by omega) M0 M1) hl4.out)
        go_wp2_with (first | (go_at_call 16; (with_reducible refine (sM.out _).mono ?_); rintro e w1 ⟨rfl, rfl⟩) | fail)
        refine hgM.out.mono ?_
        rintro e w5 ⟨rfl, hl5, ho5⟩
        have hb5 := Lib.hid (one_old hb4.out ho5 (Nat.le_refl _) hb4.out.size)
        have hl5 := Lib.hid hl5
        clear ho5
        go_wp2_with fail
        refine (left_to _ _ _ (3 * (G + M) - K) _ _ (Amp.left_small (by omega) (by omega) K0 (by omega)) hl5.out).mono ?_
        rintro e w6 ⟨rfl, hb6⟩
        have hb6 := Lib.hid (old_later hb5.out hb6 hb5.out.size)
        go_wp2_with fail
        refine (works_any _).mono ?_
        rintro e w7 ⟨rfl, hb7⟩
        have hb7 := Lib.hid (old_later hb6.out hb7 hb6.out.size)
        go_wp2_with fail
        go_ret
        exact ⟨rfl, hb7.out⟩

end Go.Proofs.Ythlpjpcmbpbplaa
