/-
  The closed law of layer 13.
-/
import Derived.Test.YtniiemmgcjkphaaBktO
import Derived.Test.YtniiemmgcjkphaaBktJ
import Derived.Deep.RegionHeld3
namespace Go.Proofs.Ytniiemmgcjkphaa
open Go.RowKit Go.Sort

def isI64 : Value → Bool
  | .int .i64 _ => true
  | _ => false
theorem rd_of_blk {W : World} {g : Nat} {T : TypeId} {cs : List Value} (h : Blk W g T cs.toArray) (m n : Nat) (hs : cs.length = n * m) (ha : cs.all isI64 = true) : Rd W (some ⟨g, 0, none⟩) m n (fun k j => numAt W g (k * m + j)) := by
  intro hn
  refine ⟨g, 0, rfl, h.lt, fun k hk j hj => ?_⟩
  rw [Nat.zero_add]
  have hlt : k * m + j < cs.length := by
    have : (k + 1) * m ≤ n * m := Nat.mul_le_mul_right m hk
    rw [Nat.add_mul, Nat.one_mul] at this
    omega
  have hc := h.cell (k * m + j)
  rw [List.getElem?_toArray, List.getElem?_eq_getElem hlt] at hc
  have hi := List.all_eq_true.1 ha _ (List.getElem_mem hlt)
  generalize cs[k * m + j] = v at *
  match v, hi with
  | .int .i64 x, _ =>
    show W.cell? _ = some (.int .i64 (numAt W g (k * m + j)))
    rw [numAt_of hc]; exact hc

def endsB (i : Nat) : Int := [-9223372036854775808, -1, 0, 1, 7, 1073741824, 1073741825, 8796093022208, 8796093022209, 9007199254740991, 9007199254740992, 9223372036854775807].getD i 0

theorem bends_cells (w : World) (w1 : World) (h : w1 = w.alloc (.cells #[.int .i64 (-9223372036854775808), .int .i64 (-1), .int .i64 0, .int .i64 1, .int .i64 7, .int .i64 1073741824, .int .i64 1073741825, .int .i64 8796093022208, .int .i64 8796093022209, .int .i64 9007199254740991, .int .i64 9007199254740992, .int .i64 9223372036854775807] 3)) :
    ∀ n, n < 12 → w1.cell? ⟨w.heap.size, n, none⟩ = some (.int .i64 (endsB n)) := by
  intro n hn
  rw [h, (Blk.new w _ _).cell n]
  rcases (by omega : n = 0 ∨ n = 1 ∨ n = 2 ∨ n = 3 ∨ n = 4 ∨ n = 5 ∨ n = 6 ∨ n = 7 ∨ n = 8 ∨ n = 9 ∨ n = 10 ∨ n = 11) with rfl | rfl | rfl | rfl | rfl | rfl | rfl | rfl | rfl | rfl | rfl | rfl <;> rfl

theorem bends_at {W w1 : World} {g n : Nat} (HC : ∀ n, n < 12 → W.cell? ⟨g, n, none⟩ = some (.int .i64 (endsB n))) (hg : g < W.heap.size) (hb : Below W.heap.size W w1) (hn : n < 12) : w1.cell? ⟨g, n, none⟩ = some (.int .i64 (endsB n)) :=
  (hb.cell (p := ⟨g, n, none⟩) hg).trans (HC n hn)

theorem bplays9 (B t a b : Int) (H : Nat) (w : World) (h : Blk w H 47 #[.int .i64 3, .int .i64 0, .int .i64 900, .int .i64 0, .int .i64 0, .int .i64 0, .int .i64 10, .int .i64 0, .int .i64 3, .int .i64 7, .int .i64 0, .int .i64 11, .int .i64 0, .int .i64 a, .int .i64 b, .int .i64 5, .int .i64 0, .int .i64 950, .int .i64 a, .int .i64 b, .int .i64 3, .int .i64 0, .int .i64 a, .int .i64 0, .int .i64 0, .int .i64 5, .int .i64 0, .int .i64 b, .int .i64 3, .int .i64 7, .int .i64 0, .int .i64 b, .int .i64 0, .int .i64 1, .int .i64 1099511627776, .int .i64 7, .int .i64 0, .int .i64 0, .int .i64 0, .int .i64 0, .int .i64 0, .int .i64 9007199254740991, .int .i64 0, .int .i64 8796093022208, .int .i64 a]) :
    Calls Try.prog 5 #[.int .i64 B, .int .i64 t, .slice (some ⟨H, 0, none⟩) 9 9] w fun e w' => e = .returned (.bool true) ∧ Below w.heap.size w w' :=
  bplays_any B t _ 9 9 _ w (by omega) (rd_of_blk h 5 9 rfl rfl)

set_option maxHeartbeats 4000000 in
set_option maxRecDepth 100000 in
theorem bknown_any (w : World) :
    Calls Try.prog 8 #[] w fun e w' => e = .returned (.bool true) ∧ Below w.heap.size w w' := by
  go_enter Try.func8, Try.ntmps8
  go_wp2_with fail
  generalize hW : w.alloc _ = W
  have HC := Lib.hid (bends_cells w W hW.symm)
  have HB : Hid (Below w.heap.size w W) := by rw [← hW]; exact laterA (Below.refl _ _) _
  have hg : w.heap.size < W.heap.size := by rw [← hW]; simp
  clear hW
  go_loopw [2] (fun i wr => ∃ n : Nat, n ≤ 12 ∧ i = .int .i64 n ∧ Below W.heap.size W wr) (fun i _ => 12 - (intOf i).toNat)
  case atStart => exact ⟨0, by omega, rfl, Below.refl _ _⟩
  case round =>
    obtain ⟨n, hn, rfl, hb⟩ := hrel
    have HBr := Lib.hid hb
    clear hb
    by_cases hlt : n < 12
    · obtain ⟨wo, rfl⟩ : ∃ wo : World, wo = wr := ⟨_, rfl⟩
      have l1 : (n : Int) < 12 := by omega
      go_wp2_with fail
      go_loopw [3] (fun k wr => ∃ m : Nat, m ≤ 12 ∧ k = .int .i64 m ∧ Below W.heap.size W wr) (fun k _ => 12 - (intOf k).toNat)
      case atStart => exact ⟨0, by omega, rfl, HBr.out⟩
      case round =>
        obtain ⟨m, hm, rfl, hb⟩ := hrel
        have HBk := Lib.hid hb
        clear hb
        by_cases hlt2 : m < 12
        · have c1 := bends_at HC.out hg HBk.out hlt
          have c2 := bends_at HC.out hg HBk.out hlt2
          have l2 : (m : Int) < 12 := by omega
          obtain ⟨a, ha⟩ : ∃ a, endsB n = a := ⟨_, rfl⟩
          obtain ⟨b, hb⟩ : ∃ b, endsB m = b := ⟨_, rfl⟩
          have hA := fun w1 h => (bends_at (w1 := w1) HC.out hg h hlt).trans (by rw [ha])
          have hB := fun w1 h => (bends_at (w1 := w1) HC.out hg h hlt2).trans (by rw [hb])
          rw [ha] at c1
          rw [hb] at c2
          replace hA := Lib.hid hA
          replace hB := Lib.hid hB
          clear ha hb
          have hgk : w.heap.size < wr.heap.size := Nat.lt_of_lt_of_le hg HBk.out.size
          go_wp2_with fail
          go_region_held3 (fun w' => w'.cell? ⟨w.heap.size, n, none⟩ = some (.int .i64 a) ∧ w'.cell? ⟨w.heap.size, m, none⟩ = some (.int .i64 b)) (first | exact ⟨c1, c2⟩ | go_keep) (fail)
          go_wp2_with fail
          have hL := (Blk.new wr 47 #[.int .i64 3, .int .i64 0, .int .i64 900, .int .i64 0, .int .i64 0, .int .i64 0, .int .i64 10, .int .i64 0, .int .i64 3, .int .i64 7, .int .i64 0, .int .i64 11, .int .i64 0, .int .i64 a, .int .i64 b, .int .i64 5, .int .i64 0, .int .i64 950, .int .i64 a, .int .i64 b, .int .i64 3, .int .i64 0, .int .i64 a, .int .i64 0, .int .i64 0, .int .i64 5, .int .i64 0, .int .i64 b, .int .i64 3, .int .i64 7, .int .i64 0, .int .i64 b, .int .i64 0, .int .i64 1, .int .i64 1099511627776, .int .i64 7, .int .i64 0, .int .i64 0, .int .i64 0, .int .i64 0, .int .i64 0, .int .i64 9007199254740991, .int .i64 0, .int .i64 8796093022208, .int .i64 a]).drew
          have hb2 := laterD (laterA (Below.refl wr.heap.size wr) (.cells #[.int .i64 3, .int .i64 0, .int .i64 900, .int .i64 0, .int .i64 0, .int .i64 0, .int .i64 10, .int .i64 0, .int .i64 3, .int .i64 7, .int .i64 0, .int .i64 11, .int .i64 0, .int .i64 a, .int .i64 b, .int .i64 5, .int .i64 0, .int .i64 950, .int .i64 a, .int .i64 b, .int .i64 3, .int .i64 0, .int .i64 a, .int .i64 0, .int .i64 0, .int .i64 5, .int .i64 0, .int .i64 b, .int .i64 3, .int .i64 7, .int .i64 0, .int .i64 b, .int .i64 0, .int .i64 1, .int .i64 1099511627776, .int .i64 7, .int .i64 0, .int .i64 0, .int .i64 0, .int .i64 0, .int .i64 0, .int .i64 9007199254740991, .int .i64 0, .int .i64 8796093022208, .int .i64 a] 47))
          replace hb2 := old_later HBk.out hb2 HBk.out.size
          generalize World.drew _ = w2 at *
          generalize wr.heap.size = H at *
          have d1 := hA.out _ hb2
          have d2 := hB.out _ hb2
          replace hL := Lib.hid hL
          replace hb2 := Lib.hid hb2
          go_region_held3 (fun w' => w'.cell? ⟨w.heap.size, n, none⟩ = some (.int .i64 a) ∧ w'.cell? ⟨w.heap.size, m, none⟩ = some (.int .i64 b)) (first | exact ⟨d1, d2⟩ | exact ⟨e1, e2⟩ | exact ⟨f1, f2⟩) (first | (go_at_call 5; (with_reducible refine (bplays9 1000 5 a b H _ (Blk.drew hL.out)).mono ?_); rintro e w3 ⟨rfl, hb3⟩; have hb3 := low_undrew hb3; have hL3 := Lib.hid (hL.out.later hb3); have hb3 := old_later hb2.out hb3 hb2.out.size; have e1 := hA.out _ hb3; have e2 := hB.out _ hb3; have hb3 := Lib.hid hb3) | (go_at_call 5; (with_reducible refine (bplays9 a b a b H _ hL3.out).mono ?_); rintro e w4 ⟨rfl, hb4⟩; have hb4 := old_later hb3.out hb4 hb3.out.size; have f1 := hA.out _ hb4; have f2 := hB.out _ hb4; have hb4 := Lib.hid hb4))
          go_wp2_with fail
          go_roundw
          case rel => exact ⟨m + 1, by omega, by go_num, hb4.out⟩
          case measure => simp [intOf]; omega
        · go_wp2_with fail
          go_roundw
          case rel => exact ⟨n + 1, by omega, by go_num, HBk.out⟩
          case measure => simp [intOf]; omega
    · have HB0 := Lib.hid (later HB.out HBr.out)
      clear HBr HC
      go_wp2_with fail
      refine wp_loop_rounds 3 ?_
      rw [rounds_succ]
      go_wp2_with fail
      refine (nfill_b _ _ _ _ _ (nob_nil _)).mono ?_
      rintro e w1 ⟨rfl, hb⟩
      replace HB0 := Lib.hid (later HB0.out hb)
      clear hb
      go_wp2_with fail
      refine (ntake_b _ _ _ (nob_nil _)).mono ?_
      rintro e w1 ⟨rfl, hb⟩
      replace HB0 := Lib.hid (later HB0.out hb)
      clear hb
      go_wp2_with fail
      refine (nwhen_b _ _ _ _ _ (nob_nil _)).mono ?_
      rintro e w1 ⟨rfl, hb⟩
      replace HB0 := Lib.hid (later HB0.out hb)
      clear hb
      go_wp2_with fail
      refine (ntokens_b _ _ (nob_nil _)).mono ?_
      rintro e w1 ⟨rfl, hb⟩
      replace HB0 := Lib.hid (later HB0.out hb)
      clear hb
      go_wp2_with fail
      refine (nrest_b _ _ (nob_nil _)).mono ?_
      rintro e w1 ⟨rfl, hb⟩
      replace HB0 := Lib.hid (later HB0.out hb)
      clear hb
      go_wp2_with fail
      refine (ntime_b _ _ (nob_nil _)).mono ?_
      rintro e w1 ⟨rfl, hb⟩
      replace HB0 := Lib.hid (later HB0.out hb)
      clear hb
      go_wp2_with fail
      refine (ncopy_b _ _ (nob_nil _)).mono ?_
      rintro e w1 ⟨rfl, hb⟩
      replace HB0 := Lib.hid (later HB0.out hb)
      clear hb
      go_wp2_with fail
      rw [rounds_succ]
      have hz := Lib.hid (nob_zero _ _ (Blk.new w1 60 (cellsB ⟨0, 0, 0, 0, 0, 0⟩)))
      replace HB0 := Lib.hid (laterA HB0.out (.cells #[.int .i64 0, .int .i64 0, .int .i64 0, .int .i64 0, .int .i64 0, .int .i64 0] 60))
      simp only [cellsB] at hz
      generalize w1.alloc _ = v0 at *
      generalize w1.heap.size = Z at *
      go_wp2_with fail
      refine (nfill_b _ _ _ _ _ hz.out).mono ?_
      rintro e w1 ⟨rfl, hb⟩
      replace HB0 := Lib.hid (later HB0.out hb)
      replace hz := Lib.hid (NoB.later hz.out hb)
      clear hb
      go_wp2_with fail
      refine (ntake_b _ _ _ hz.out).mono ?_
      rintro e w1 ⟨rfl, hb⟩
      replace HB0 := Lib.hid (later HB0.out hb)
      replace hz := Lib.hid (NoB.later hz.out hb)
      clear hb
      go_wp2_with fail
      refine (nwhen_b _ _ _ _ _ hz.out).mono ?_
      rintro e w1 ⟨rfl, hb⟩
      replace HB0 := Lib.hid (later HB0.out hb)
      replace hz := Lib.hid (NoB.later hz.out hb)
      clear hb
      go_wp2_with fail
      refine (ntokens_b _ _ hz.out).mono ?_
      rintro e w1 ⟨rfl, hb⟩
      replace HB0 := Lib.hid (later HB0.out hb)
      replace hz := Lib.hid (NoB.later hz.out hb)
      clear hb
      go_wp2_with fail
      refine (nrest_b _ _ hz.out).mono ?_
      rintro e w1 ⟨rfl, hb⟩
      replace HB0 := Lib.hid (later HB0.out hb)
      replace hz := Lib.hid (NoB.later hz.out hb)
      clear hb
      go_wp2_with fail
      refine (ntime_b _ _ hz.out).mono ?_
      rintro e w1 ⟨rfl, hb⟩
      replace HB0 := Lib.hid (later HB0.out hb)
      replace hz := Lib.hid (NoB.later hz.out hb)
      clear hb
      go_wp2_with fail
      refine (ncopy_b _ _ hz.out).mono ?_
      rintro e w1 ⟨rfl, hb⟩
      replace HB0 := Lib.hid (later HB0.out hb)
      replace hz := Lib.hid (NoB.later hz.out hb)
      clear hb
      go_wp2_with fail
      rw [rounds_succ]
      replace HB0 := Lib.hid (laterA HB0.out (.cells #[.int .i64 0, .int .i64 0, .int .i64 0, .int .i64 0, .int .i64 0, .int .i64 0] 60))
      clear hz
      generalize w1.alloc _ = v1 at *
      go_wp2_with fail
      refine (bworks_any _).mono ?_
      rintro e wy ⟨rfl, hb2⟩
      replace HB0 := Lib.hid (later HB0.out hb2)
      clear hb2
      go_wp2_with fail
      go_ret
      exact ⟨rfl, HB0.out⟩
end Go.Proofs.Ytniiemmgcjkphaa
