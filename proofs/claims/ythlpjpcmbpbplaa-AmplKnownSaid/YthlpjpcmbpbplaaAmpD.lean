/-
  The laws of layer 15: AmplThrice.
-/
import Derived.Test.YthlpjpcmbpbplaaAmpC
import Derived.Test.YthlpjpcmbpbplaaAmpP
import Derived.Test.YthlpjpcmbpbplaaRead
namespace Go.Proofs.Ythlpjpcmbpbplaa
open Go.RowKit Go.Sort

theorem can_to (b : Nat) (g s n : Int) (v : Bool) (R : Bool) (w : World) (hL : Amp.can v g s n = R) (h : Lim w b g s v) :
    Calls Try.prog 17 #[.pointer (some ⟨b, 0, none⟩), .int .i64 n] w fun e w' => e = .returned (.bool R) ∧ Below w.heap.size w w' := by
  subst hL; exact can_any b g s n v w h
theorem one_old {B : Nat} {a w w' : World} {b : Nat} (h : Below B a w) (k : w.grownBy w' (some b)) (hB : B ≤ b) (hs : B ≤ w.heap.size) : Below B a w' := h.trans (one_below k hB hs)
theorem old_later {B : Nat} {a w w' : World} (h : Below B a w) (k : Below w.heap.size w w') (hs : B ≤ w.heap.size) : Below B a w' := h.trans (k.mono hs)

set_option maxRecDepth 100000 in
theorem thrice_any (A : Option Addr) (n c : Nat) (f : Nat → Nat → Int) (w : World) (hn : n ≤ 9223372036854775807) (hr : Rd w A 1 n f) :
    Calls Try.prog 3 #[.slice A n c] w fun e w' => e = .returned (.bool true) ∧ Below w.heap.size w w' := by
  have HR := Lib.hid hr
  clear hr
  go_enter Try.func3, Try.ntmps3
  go_wp2_with fail
  refine (works_any _).mono ?_
  rintro e wa ⟨rfl, ba⟩
  go_wp2_with fail
  refine (new_any false _).mono ?_
  rintro e wb ⟨rfl, lb, bb⟩
  have bab := later ba bb
  have sz0 : w.heap.size ≤ wa.heap.size := ba.size
  generalize wa.heap.size = L at *
  clear ba bb
  go_wp2_with fail
  go_loopw [4, 5, 6] (fun g s i wr => ∃ (k : Nat) (G S : Int), g = .int .i64 G ∧ s = .int .i64 S ∧ i = .int .i64 k ∧ k ≤ n ∧ k ≤ 100 ∧ 0 ≤ S ∧ S ≤ 3 * G ∧ G ≤ 65535 * (k : Int) ∧ Lim wr L G S false ∧ Below w.heap.size w wr)
    (fun _ _ i _ => 100 - (intOf i).toNat)
  case atStart => exact ⟨0, 0, 0, rfl, rfl, rfl, by omega, by omega, by omega, by omega, by omega, lb, bab⟩
  case round =>
    obtain ⟨k, G, S, rfl, rfl, rfl, hk, hk1, hS0, hS, hG, hl, hbw⟩ := hrel
    have szr : w.heap.size ≤ wr.heap.size := hbw.size
    by_cases hlt : k < n
    · by_cases h100 : k < 100
      · obtain ⟨b, off, rfl, hb, hc⟩ := (HR.out.later hbw) (by omega)
        have hx := hc k hlt 0 (by omega)
        rw [show off + (k * 1 + 0) = off + k by omega] at hx
        clear hc
        have hB := Lib.hid (bring_same (f k 0) 131072 (by omega) (by omega))
        have hm0 := Int.emod_nonneg (f k 0) (show (131072 : Int) ≠ 0 by omega)
        have hm1 := Int.emod_lt_of_pos (f k 0) (show (0 : Int) < 131072 by omega)
        generalize f k 0 = x at *
        generalize x % 131072 = m at *
        have hl := Lib.hid hl
        have hbw := Lib.hid hbw
        by_cases hodd : m % 2 = 1
        · have hg := Lib.hid (got_to L G S (m / 2) (G + m / 2) 0 false _ (Amp.gotE_ok (by omega) (by omega)) (Amp.gotG_ok (by omega) (by omega) (by omega) (by omega)) hl.out)
          go_wp2_with (first | (go_at_call 11; (with_reducible refine (hB.out _).mono ?_); rintro e w1 ⟨rfl, rfl⟩) | (go_at_call 12; (with_reducible refine hg.out.mono ?_); rintro e w2 ⟨rfl, hl2, ho2⟩; have hb2 := one_old hbw.out ho2 (by assumption) szr; have hl2 := Lib.hid hl2; have hb2 := Lib.hid hb2; clear ho2; have ht := Lib.hid (totals_any _ _ _ _ _ hl2.out)) | (go_at_call 14; (with_reducible refine ht.out.mono ?_); rintro e w3 ⟨rfl, hb3⟩; have hl3 := Lib.hid (hl2.out.later hb3); have hb3 := Lib.hid (old_later hb2.out hb3 hb2.out.size); have hL := Lib.hid (left_to _ _ _ (3 * (G + m / 2) - S) _ _ (Amp.left_small (by omega) (by omega) (by omega) (by omega)) hl3.out)) | (go_at_call 15; (with_reducible refine hL.out.mono ?_); rintro e w4 ⟨rfl, hb4⟩; have hl4 := Lib.hid (hl3.out.later hb4); have hb4 := Lib.hid (old_later hb3.out hb4 hb3.out.size)) | fail)
          go_roundw
          case rel => exact ⟨k + 1, G + m / 2, S, rfl, rfl, by go_num, by omega, by omega, by omega, by omega, by omega, hl4.out, hb4.out⟩
          case measure => simp [intOf]; omega
        · have el := Amp.left_small (show 0 ≤ G by omega) (by omega) hS0 hS
          by_cases hmay : S + m / 2 ≤ 3 * G
          · have hg := Lib.hid (sent_to L G S (m / 2) (S + m / 2) 0 false _ (Amp.sentE_ok (by omega) (by omega) (by omega)) (Amp.sentS_ok (by omega) (by omega) (by omega) (by omega) (by omega)) hl.out)
            go_wp2_with (first | (go_at_call 11; (with_reducible refine (hB.out _).mono ?_); rintro e w1 ⟨rfl, rfl⟩) | (go_at_call 13; (with_reducible refine hg.out.mono ?_); rintro e w2 ⟨rfl, hl2, ho2⟩; have hb2 := one_old hbw.out ho2 (by assumption) szr; have hl2 := Lib.hid hl2; have hb2 := Lib.hid hb2; clear ho2; have ht := Lib.hid (totals_any _ _ _ _ _ hl2.out)) | (go_at_call 14; (with_reducible refine ht.out.mono ?_); rintro e w3 ⟨rfl, hb3⟩; have hl3 := Lib.hid (hl2.out.later hb3); have hb3 := Lib.hid (old_later hb2.out hb3 hb2.out.size); have hL := Lib.hid (left_to _ _ _ (3 * G - (S + m / 2)) _ _ (Amp.left_small (by omega) (by omega) (by omega) (by omega)) hl3.out)) | (go_at_call 15; (with_reducible refine hL.out.mono ?_); rintro e w4 ⟨rfl, hb4⟩; have hl4 := Lib.hid (hl3.out.later hb4); have hb4 := Lib.hid (old_later hb3.out hb4 hb3.out.size)) | fail)
            go_roundw
            case rel => exact ⟨k + 1, G, S + m / 2, rfl, rfl, by go_num, by omega, by omega, by omega, by omega, by omega, hl4.out, hb4.out⟩
            case measure => simp [intOf]; omega
          · have hg := Lib.hid (sent_to L G S (m / 2) S 212 false _ (Amp.sentE_no (by omega) (by omega) (by omega)) (Amp.sentS_no (by omega) (by omega) (by omega)) hl.out)
            go_wp2_with (first | (go_at_call 11; (with_reducible refine (hB.out _).mono ?_); rintro e w1 ⟨rfl, rfl⟩) | (go_at_call 13; (with_reducible refine hg.out.mono ?_); rintro e w2 ⟨rfl, hl2, ho2⟩; have hb2 := one_old hbw.out ho2 (by assumption) szr; have hl2 := Lib.hid hl2; have hb2 := Lib.hid hb2; clear ho2; have ht := Lib.hid (totals_any _ _ _ _ _ hl2.out)) | (go_at_call 14; (with_reducible refine ht.out.mono ?_); rintro e w3 ⟨rfl, hb3⟩; have hl3 := Lib.hid (hl2.out.later hb3); have hb3 := Lib.hid (old_later hb2.out hb3 hb2.out.size); have hL := Lib.hid (left_to _ _ _ (3 * G - S) _ _ (Amp.left_small (by omega) (by omega) (by omega) (by omega)) hl3.out)) | (go_at_call 15; (with_reducible refine hL.out.mono ?_); rintro e w4 ⟨rfl, hb4⟩; have hl4 := Lib.hid (hl3.out.later hb4); have hb4 := Lib.hid (old_later hb3.out hb4 hb3.out.size)) | fail)
            go_roundw
            case rel => exact ⟨k + 1, G, S, rfl, rfl, by go_num, by omega, by omega, by omega, by omega, by omega, hl4.out, hb4.out⟩
            case measure => simp [intOf]; omega
      · go_wp2
        go_ret
        exact ⟨rfl, hbw⟩
    · go_wp2
      go_ret
      exact ⟨rfl, hbw⟩

end Go.Proofs.Ythlpjpcmbpbplaa
