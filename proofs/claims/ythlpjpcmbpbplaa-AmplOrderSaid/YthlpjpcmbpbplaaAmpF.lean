/-
  The laws of layer 15: AmplValid.
-/
import Derived.Test.YthlpjpcmbpbplaaAmpE
namespace Go.Proofs.Ythlpjpcmbpbplaa
open Go.RowKit Go.Sort

theorem Rd.at {w : World} {A : Option Addr} {n : Nat} {f : Nat → Nat → Int} (h : Rd w A 1 n f) {k : Nat} (hk : k < n) :
    ∃ b off, A = some ⟨b, off, none⟩ ∧ ∀ wx, Below w.heap.size w wx → wx.cell? ⟨b, off + k, none⟩ = some (.int .i64 (f k 0)) := by
  obtain ⟨b, off, rfl, hb, hc⟩ := h (by omega)
  refine ⟨b, off, rfl, fun wx hx => (hx.cell (p := ⟨b, _, none⟩) hb).trans ?_⟩
  have := hc k hk 0 (by omega)
  rwa [show off + (k * 1 + 0) = off + k by omega] at this

namespace Amp
theorem sentS_small {g s n : Int} (s0 : 0 ≤ s) (s1 : s ≤ 1000000000) (n0 : 0 ≤ n) (n1 : n ≤ 65535) : 0 ≤ sentS false g s n ∧ sentS false g s n ≤ s + n := by
  unfold sentS; split
  · rw [add_small s0 s1 n0 (by omega)]; omega
  · omega
theorem left_true (g s : Int) : left true g s = 9007199254740991 := rfl
theorem can_no {v : Bool} {g s n : Int} (n1 : 65535 < n) : can v g s n = false := by
  unfold can ok; rw [decide_eq_false (by omega)]; rfl
end Amp

set_option maxRecDepth 100000 in
theorem valid_law (A : Option Addr) (n c : Nat) (f : Nat → Nat → Int) (A' : Option Addr) (n' c' : Nat) (f' : Nat → Nat → Int) (w : World) (hn : n ≤ 9223372036854775807) (hr : Rd w A 1 n f) (hn' : n' ≤ 9223372036854775807) (hr' : Rd w A' 1 n' f') :
    Calls Try.prog 6 #[.slice A n c, .slice A' n' c'] w fun e w' => e = .returned (.bool true) ∧ Below w.heap.size w w' := by
  have HR := Lib.hid hr
  have HR' := Lib.hid hr'
  clear hr hr'
  go_enter Try.func6, Try.ntmps6
  go_wp2_with fail
  refine (new_any false _).mono ?_
  rintro e wb ⟨rfl, lb, bb⟩
  go_wp2_with fail
  go_loopw [6] (fun i wr => ∃ (k : Nat) (G S : Int), i = .int .i64 k ∧ k ≤ n ∧ k ≤ 30 ∧ 0 ≤ G ∧ G ≤ 65535 * (k : Int) ∧ 0 ≤ S ∧ S ≤ 65535 * (k : Int) ∧ Lim wr w.heap.size G S false ∧ Below w.heap.size w wr) (fun i _ => 30 - (intOf i).toNat)
  case atStart => exact ⟨0, 0, 0, rfl, by omega, by omega, by omega, by omega, by omega, by omega, lb, bb⟩
  case round =>
    obtain ⟨k, G, S, rfl, hk, hk1, hG0, hG, hS0, hS, hl, hbw⟩ := hrel
    have szr : w.heap.size ≤ wr.heap.size := hbw.size
    have hl := Lib.hid hl
    have hbw := Lib.hid hbw
    by_cases hlt : k < n ∧ k < 30
    · obtain ⟨hlt, h30⟩ := hlt
      obtain ⟨b, off, rfl, hc⟩ := HR.out.at hlt
      obtain ⟨m, hm, m0, m1⟩ := size_of (f k 0)
      have sm := Lib.hid (lsize_to (f k 0) m hm)
      clear hm
      generalize f k 0 = z at *
      obtain ⟨m', hm', m0', m1'⟩ := size_of (wrap64 (z.tdiv 2))
      have sm' := Lib.hid (lsize_to (wrap64 (z.tdiv 2)) m' hm')
      clear hm'
      have hx := hc _ hbw.out
      have hc := Lib.hid hc
      have hg := Lib.hid (got_to w.heap.size G S m (G + m) 0 false _ (Amp.gotE_ok m0 m1) (Amp.gotG_ok (by omega) (by omega) m0 m1) hl.out)
      obtain ⟨u0, u1⟩ := Amp.sentS_small (g := G + m) hS0 (by omega) m0' m1'
      go_wp2_with (first | (go_at_call 16; (with_reducible refine (sm.out _).mono ?_); rintro e w1 ⟨rfl, rfl⟩) | (go_at_call 16; (with_reducible refine (sm'.out _).mono ?_); rintro e w1 ⟨rfl, rfl⟩) | (go_at_call 12; (with_reducible refine hg.out.mono ?_); rintro e w2 ⟨rfl, hl2, ho2⟩; have hb2 := one_old hbw.out ho2 (Nat.le_refl _) szr; have hx2 := hc.out _ hb2; have hb2 := Lib.hid hb2; have hl2 := Lib.hid hl2; clear ho2 hx; have hS := Lib.hid (sent_any _ _ _ m' _ _ hl2.out)) | (go_at_call 13; (with_reducible refine hS.out.mono ?_); rintro e w3 ⟨rfl, hl3, ho3⟩; have hb3 := Lib.hid (one_old hb2.out ho3 (Nat.le_refl _) hb2.out.size); have hl3 := Lib.hid hl3; clear ho3))
      go_roundw
      case rel => exact ⟨k + 1, G + m, Amp.sentS false (G + m) S m', by go_num, by omega, by omega, by omega, by omega, by omega, by omega, hl3.out, hb3.out⟩
      case measure => simp [intOf]; omega
    · have hcase : ¬ k < n ∨ (k < n ∧ ¬ k < 30) := by omega
      clear hlt
      rcases hcase with h1 | ⟨h1, h2⟩
      all_goals
        go_wp2_with fail
        refine (totals_any _ _ _ _ _ hl.out).mono ?_
        rintro e w1 ⟨rfl, hb1⟩
        have hl1 := Lib.hid (hl.out.later hb1)
        have hb1 := Lib.hid (old_later hbw.out hb1 szr)
        go_wp2_with fail
        refine (valid_any _ _ _ _ _ hl1.out).mono ?_
        rintro e w2 ⟨rfl, hb2⟩
        have hl2 := Lib.hid (hl1.out.later hb2)
        have hb2 := Lib.hid (old_later hb1.out hb2 hb1.out.size)
        go_wp2_with fail
        refine (validate_any _ _ _ _ _ hl2.out).mono ?_
        rintro e w3 ⟨rfl, hl3, ho3⟩
        have hb3 := Lib.hid (one_old hb2.out ho3 (Nat.le_refl _) hb2.out.size)
        have hl3 := Lib.hid hl3
        clear ho3
        go_wp2_with fail
        refine (valid_any _ _ _ _ _ hl3.out).mono ?_
        rintro e w4 ⟨rfl, hb4⟩
        have hl4 := hl3.out.later hb4
        have hb4 := old_later hb3.out hb4 hb3.out.size
        go_wp2_with fail
        go_loopw [8, 9] (fun s i wr => ∃ (k : Nat) (T : Int), s = .int .i64 T ∧ i = .int .i64 k ∧ k ≤ n' ∧ k ≤ 30 ∧ 0 ≤ T ∧ T ≤ 2000000 + 65535 * (k : Int) ∧ Lim wr w.heap.size G T true ∧ Below w.heap.size w wr) (fun _ i _ => 30 - (intOf i).toNat)
        case atStart => exact ⟨0, S, rfl, rfl, by omega, by omega, by omega, by omega, hl4, hb4⟩
        case round =>
          clear hbw hl hl1 hl2 hl3 hb1 hb2 hb3 hl4 hb4
          obtain ⟨q, T, rfl, rfl, hq, hq1, hT0, hT, hl, hbw⟩ := hrel
          have hl := Lib.hid hl
          have hbw := Lib.hid hbw
          by_cases hlt : q < n' ∧ q < 30
          · obtain ⟨hlt, h30⟩ := hlt
            obtain ⟨b, off, rfl, hc⟩ := HR'.out.at hlt
            obtain ⟨m, hm, m0, m1⟩ := size_of (f' q 0)
            have sm := Lib.hid (lsize_to (f' q 0) m hm)
            clear hm
            generalize f' q 0 = z at *
            have hx := hc _ hbw.out
            clear hc
            have hC := Lib.hid (can_to _ G T m true true _ (Amp.can_ok m0 m1 (by rw [Amp.left_true]; omega)) hl.out)
            go_wp2_with (first | (go_at_call 16; (with_reducible refine (sm.out _).mono ?_); rintro e w1 ⟨rfl, rfl⟩) | (go_at_call 17; (with_reducible refine hC.out.mono ?_); rintro e w2 ⟨rfl, hb2⟩; have hl2 := Lib.hid (hl.out.later hb2); have hb2 := Lib.hid (old_later hbw.out hb2 hbw.out.size); have hS := Lib.hid (sent_to _ G T m (T + m) 0 true _ (Amp.sentE_ok m0 m1 (by rw [Amp.left_true]; omega)) (Amp.sentS_ok m0 m1 (by rw [Amp.left_true]; omega) hT0 (by omega)) hl2.out)) | (go_at_call 13; (with_reducible refine hS.out.mono ?_); rintro e w3 ⟨rfl, hl3, ho3⟩; have hb3 := Lib.hid (one_old hb2.out ho3 (Nat.le_refl _) hb2.out.size); have hl3 := Lib.hid hl3; clear ho3))
            go_roundw
            case rel => exact ⟨q + 1, T + m, rfl, by go_num, by omega, by omega, by omega, by omega, hl3.out, hb3.out⟩
            case measure => simp [intOf]; omega
          · have hcase : ¬ q < n' ∨ (q < n' ∧ ¬ q < 30) := by omega
            clear hlt
            rcases hcase with g1 | ⟨g1, g2⟩
            all_goals
              go_wp2_with fail
              refine (totals_any _ _ _ _ _ hl.out).mono ?_
              rintro e w1 ⟨rfl, hb1⟩
              have hl1 := Lib.hid (hl.out.later hb1)
              have hb1 := Lib.hid (old_later hbw.out hb1 hbw.out.size)
              go_wp2_with fail
              refine (can_to _ G T 65535 true true _ (Amp.can_ok (by omega) (by omega) (by rw [Amp.left_true]; omega)) hl1.out).mono ?_
              rintro e w2 ⟨rfl, hb2⟩
              have hl2 := Lib.hid (hl1.out.later hb2)
              have hb2 := Lib.hid (old_later hb1.out hb2 hb1.out.size)
              go_wp2_with fail
              refine (can_to _ G T 65536 true false _ (Amp.can_no (by omega)) hl2.out).mono ?_
              rintro e w3 ⟨rfl, hb3⟩
              have hb3 := Lib.hid (old_later hb2.out hb3 hb2.out.size)
              go_wp2_with fail
              refine (works_any _).mono ?_
              rintro e w4 ⟨rfl, hb4⟩
              have hb4 := Lib.hid (old_later hb3.out hb4 hb3.out.size)
              go_wp2_with fail
              go_ret
              exact ⟨rfl, hb4.out⟩

end Go.Proofs.Ythlpjpcmbpbplaa
