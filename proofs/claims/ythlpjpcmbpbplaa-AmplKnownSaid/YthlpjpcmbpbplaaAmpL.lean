/-
  The closed law of layer 15.
-/
import Derived.Test.YthlpjpcmbpbplaaAmpK
namespace Go.Proofs.Ythlpjpcmbpbplaa
open Go.RowKit Go.Sort

/-- The nine numbers. -/
def endsA (i : Nat) : Int := [-9223372036854775808, -1, 0, 1, 1200, 65535, 65536, 9007199254740991, 9223372036854775807].getD i 0

theorem aends_cells (w : World) (w1 : World) (h : w1 = w.alloc (.cells #[.int .i64 (-9223372036854775808), .int .i64 (-1), .int .i64 0, .int .i64 1, .int .i64 1200, .int .i64 65535, .int .i64 65536, .int .i64 9007199254740991, .int .i64 9223372036854775807] 3)) :
    ∀ n, n < 9 → w1.cell? ⟨w.heap.size, n, none⟩ = some (.int .i64 (endsA n)) := by
  intro n hn
  rw [h, (Blk.new w _ _).cell n]
  rcases (by omega : n = 0 ∨ n = 1 ∨ n = 2 ∨ n = 3 ∨ n = 4 ∨ n = 5 ∨ n = 6 ∨ n = 7 ∨ n = 8) with rfl | rfl | rfl | rfl | rfl | rfl | rfl | rfl | rfl <;> rfl

theorem aends_at {W w1 : World} {g n : Nat} (HC : ∀ n, n < 9 → W.cell? ⟨g, n, none⟩ = some (.int .i64 (endsA n))) (hg : g < W.heap.size) (hb : Below W.heap.size W w1) (hn : n < 9) : w1.cell? ⟨g, n, none⟩ = some (.int .i64 (endsA n)) :=
  (hb.cell (p := ⟨g, n, none⟩) hg).trans (HC n hn)

theorem plays7 (v : Bool) (a b : Int) (w : World) :
    Calls Try.prog 7 #[.bool v, .slice (some ⟨w.heap.size, 0, none⟩) 7 7] (w.alloc (.cells #[.int .i64 0, .int .i64 a, .int .i64 3, .int .i64 b, .int .i64 6, .int .i64 a, .int .i64 0, .int .i64 b, .int .i64 3, .int .i64 a, .int .i64 7, .int .i64 5, .int .i64 3, .int .i64 b] 42)).drew fun e w' => e = .returned (.bool true) ∧ Below w.heap.size w w' := by
  have hB := Blk.new w 42 #[.int .i64 0, .int .i64 a, .int .i64 3, .int .i64 b, .int .i64 6, .int .i64 a, .int .i64 0, .int .i64 b, .int .i64 3, .int .i64 a, .int .i64 7, .int .i64 5, .int .i64 3, .int .i64 b]
  have hb := laterD (laterA (Below.refl w.heap.size w) (.cells #[.int .i64 0, .int .i64 a, .int .i64 3, .int .i64 b, .int .i64 6, .int .i64 a, .int .i64 0, .int .i64 b, .int .i64 3, .int .i64 a, .int .i64 7, .int .i64 5, .int .i64 3, .int .i64 b] 42))
  have hB := hB.drew
  generalize (w.alloc _).drew = W at *
  have hlt : w.heap.size < W.heap.size := hB.lt
  refine (plays_any v _ 7 7 (fun k j => numAt W w.heap.size (k * 2 + j)) W (by omega) fun _ => ⟨_, _, rfl, hlt, fun k hk j hj => ?_⟩).mono fun e w' ⟨he, hw⟩ => ⟨he, later hb hw⟩
  rw [Nat.zero_add]
  obtain ⟨t, ht⟩ : ∃ t, k * 2 + j = t := ⟨_, rfl⟩
  show W.cell? ⟨w.heap.size, k * 2 + j, none⟩ = some (.int .i64 (numAt W w.heap.size (k * 2 + j)))
  rw [ht]
  have h14 : t < 14 := by omega
  clear ht hk hj
  have hc := hB.cell t
  rcases (by omega : t = 0 ∨ t = 1 ∨ t = 2 ∨ t = 3 ∨ t = 4 ∨ t = 5 ∨ t = 6 ∨ t = 7 ∨ t = 8 ∨ t = 9 ∨ t = 10 ∨ t = 11 ∨ t = 12 ∨ t = 13) with rfl | rfl | rfl | rfl | rfl | rfl | rfl | rfl | rfl | rfl | rfl | rfl | rfl | rfl <;> (simp at hc; rw [numAt_of hc]; exact hc)

set_option maxHeartbeats 4000000 in
set_option maxRecDepth 100000 in
theorem aknown_any (w : World) :
    Calls Try.prog 8 #[] w fun e w' => e = .returned (.bool true) ∧ Below w.heap.size w w' := by
  go_enter Try.func8, Try.ntmps8
  go_wp2_with fail
  generalize hW : w.alloc _ = W
  have HC := Lib.hid (aends_cells w W hW.symm)
  have HB : Hid (Below w.heap.size w W) := by rw [← hW]; exact laterA (Below.refl _ _) _
  have hg : w.heap.size < W.heap.size := by rw [← hW]; simp
  clear hW
  go_loopw [2] (fun i wr => ∃ n : Nat, n ≤ 9 ∧ i = .int .i64 n ∧ Below W.heap.size W wr) (fun i _ => 9 - (intOf i).toNat)
  case atStart => exact ⟨0, by omega, rfl, Below.refl _ _⟩
  case round =>
    obtain ⟨n, hn, rfl, hb⟩ := hrel
    have HBr := Lib.hid hb
    clear hb
    by_cases hlt : n < 9
    · obtain ⟨wo, rfl⟩ : ∃ wo : World, wo = wr := ⟨_, rfl⟩
      have l1 : (n : Int) < 9 := by omega
      go_wp2_with fail
      go_loopw [3] (fun k wr => ∃ m : Nat, m ≤ 9 ∧ k = .int .i64 m ∧ Below W.heap.size W wr) (fun k _ => 9 - (intOf k).toNat)
      case atStart => exact ⟨0, by omega, rfl, HBr.out⟩
      case round =>
        obtain ⟨m, hm, rfl, hb⟩ := hrel
        have HBk := Lib.hid hb
        clear hb
        by_cases hlt2 : m < 9
        · have c1 := aends_at HC.out hg HBk.out hlt
          have c2 := aends_at HC.out hg HBk.out hlt2
          have l2 : (m : Int) < 9 := by omega
          have hgk : w.heap.size < wr.heap.size := Nat.lt_of_lt_of_le hg HBk.out.size
          go_wp2_with fail
          go_region_held3 (fun w' => w'.cell? ⟨w.heap.size, n, none⟩ = some (.int .i64 (endsA n)) ∧ w'.cell? ⟨w.heap.size, m, none⟩ = some (.int .i64 (endsA m))) (first | exact ⟨c1, c2⟩ | exact ⟨d1, d2⟩ | go_keep) (first | (go_at_call 7; (with_reducible refine (plays7 _ _ _ _).mono ?_); rintro e w5 ⟨rfl, hb5⟩; have hb5 := old_later HBk.out hb5 HBk.out.size; have d1 := aends_at HC.out hg hb5 hlt; have d2 := aends_at HC.out hg hb5 hlt2; have hb5 := Lib.hid hb5))
          go_wp2_with fail
          go_roundw
          case rel => exact ⟨m + 1, by omega, by go_num, hb5.out⟩
          case measure => simp [intOf]; omega
        · go_wp2_with fail
          go_roundw
          case rel => exact ⟨n + 1, by omega, by go_num, HBk.out⟩
          case measure => simp [intOf]; omega
    · have HB0 := Lib.hid (later HB.out HBr.out)
      clear HBr HC
      go_wp2_with fail
      refine wp_loop_rounds 3 ?_
      rw [rounds_succ]
      go_wp2_with fail
      refine (ntotals_any _ _ (no_nil _)).mono ?_
      rintro e w0 ⟨rfl, hb0⟩
      have HB1 := Lib.hid (later HB0.out hb0)
      clear HB0 hb0
      go_wp2_with fail
      refine (ngot_any _ _ _ (no_nil _)).mono ?_
      rintro e w1 ⟨rfl, hb1⟩
      have HB2 := Lib.hid (later HB1.out hb1)
      clear HB1 hb1
      go_wp2_with fail
      refine (nsent_any _ _ _ (no_nil _)).mono ?_
      rintro e w2 ⟨rfl, hb2⟩
      have HB3 := Lib.hid (later HB2.out hb2)
      clear HB2 hb2
      go_wp2_with fail
      refine (nvalidate_any _ _ (no_nil _)).mono ?_
      rintro e w3 ⟨rfl, hb3⟩
      have HB4 := Lib.hid (later HB3.out hb3)
      clear HB3 hb3
      go_wp2_with fail
      refine (nvalid_any _ _ (no_nil _)).mono ?_
      rintro e w4 ⟨rfl, hb4⟩
      have HB5 := Lib.hid (later HB4.out hb4)
      clear HB4 hb4
      go_wp2_with fail
      refine (nleft_any _ _ (no_nil _)).mono ?_
      rintro e w5 ⟨rfl, hb5⟩
      have HB6 := Lib.hid (later HB5.out hb5)
      clear HB5 hb5
      go_wp2_with fail
      refine (ncan_any _ _ _ (no_nil _)).mono ?_
      rintro e w6 ⟨rfl, hb6⟩
      have HB7 := Lib.hid (later HB6.out hb6)
      clear HB6 hb6
      go_wp2_with fail
      refine (ncopy_any _ _ (no_nil _)).mono ?_
      rintro e w7 ⟨rfl, hb7⟩
      have HB8 := Lib.hid (later HB7.out hb7)
      clear HB7 hb7
      go_wp2_with fail
      rw [rounds_succ]
      have hz := Lib.hid (Blk.new w7 49 #[.int .i64 0, .int .i64 0, .bool false, .nilFunc])
      have HA0 := Lib.hid (laterA HB8.out (.cells #[.int .i64 0, .int .i64 0, .bool false, .nilFunc] 49))
      generalize w7.alloc _ = v0 at *
      generalize w7.heap.size = Z at *
      clear HB8
      go_wp2_with fail
      refine (ntotals_any _ _ (no_zero _ _ hz.out)).mono ?_
      rintro e v1 ⟨rfl, hb0⟩
      have HA1 := Lib.hid (later HA0.out hb0)
      have hz := Lib.hid (hz.out.later hb0)
      clear HA0 hb0
      go_wp2_with fail
      refine (ngot_any _ _ _ (no_zero _ _ hz.out)).mono ?_
      rintro e v2 ⟨rfl, hb1⟩
      have HA2 := Lib.hid (later HA1.out hb1)
      have hz := Lib.hid (hz.out.later hb1)
      clear HA1 hb1
      go_wp2_with fail
      refine (nsent_any _ _ _ (no_zero _ _ hz.out)).mono ?_
      rintro e v3 ⟨rfl, hb2⟩
      have HA3 := Lib.hid (later HA2.out hb2)
      have hz := Lib.hid (hz.out.later hb2)
      clear HA2 hb2
      go_wp2_with fail
      refine (nvalidate_any _ _ (no_zero _ _ hz.out)).mono ?_
      rintro e v4 ⟨rfl, hb3⟩
      have HA4 := Lib.hid (later HA3.out hb3)
      have hz := Lib.hid (hz.out.later hb3)
      clear HA3 hb3
      go_wp2_with fail
      refine (nvalid_any _ _ (no_zero _ _ hz.out)).mono ?_
      rintro e v5 ⟨rfl, hb4⟩
      have HA5 := Lib.hid (later HA4.out hb4)
      have hz := Lib.hid (hz.out.later hb4)
      clear HA4 hb4
      go_wp2_with fail
      refine (nleft_any _ _ (no_zero _ _ hz.out)).mono ?_
      rintro e v6 ⟨rfl, hb5⟩
      have HA6 := Lib.hid (later HA5.out hb5)
      have hz := Lib.hid (hz.out.later hb5)
      clear HA5 hb5
      go_wp2_with fail
      refine (ncan_any _ _ _ (no_zero _ _ hz.out)).mono ?_
      rintro e v7 ⟨rfl, hb6⟩
      have HA7 := Lib.hid (later HA6.out hb6)
      have hz := Lib.hid (hz.out.later hb6)
      clear HA6 hb6
      go_wp2_with fail
      refine (ncopy_any _ _ (no_zero _ _ hz.out)).mono ?_
      rintro e v8 ⟨rfl, hb7⟩
      have HA8 := Lib.hid (later HA7.out hb7)
      have hz := Lib.hid (hz.out.later hb7)
      clear HA7 hb7
      go_wp2_with fail
      rw [rounds_succ]
      clear hz
      go_wp2_with fail
      have HA9 := Lib.hid (laterA HA8.out (.cells #[.int .i64 0, .int .i64 0, .bool false, .nilFunc] 49))
      clear HA8
      generalize v8.alloc _ = v9 at *
      refine (new_any true _).mono ?_
      rintro e wx ⟨rfl, hl, hb1⟩
      have hl1 := Lib.hid hl
      have HX1 := Lib.hid (later HA9.out hb1)
      clear hl hb1
      go_wp2_with fail
      refine (works_any _).mono ?_
      rintro e wy ⟨rfl, hb2⟩
      have hl2 := Lib.hid (hl1.out.kept hb2)
      have HX2 := Lib.hid (later HX1.out hb2)
      clear hb2
      go_wp2_with fail
      refine (valid_any _ _ _ _ _ hl2.out).mono ?_
      rintro e wz ⟨rfl, hb3⟩
      have hl3 := Lib.hid (hl2.out.kept hb3)
      have HX3 := Lib.hid (later HX2.out hb3)
      clear hb3
      go_wp2_with fail
      refine (left_to _ _ _ 9007199254740991 _ _ rfl hl3.out).mono ?_
      rintro e wt ⟨rfl, hb4⟩
      have HX4 := Lib.hid (later HX3.out hb4)
      clear hb4
      go_wp2_with fail
      go_ret
      exact ⟨rfl, HX4.out⟩
end Go.Proofs.Ythlpjpcmbpbplaa
