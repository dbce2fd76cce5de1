/-
  The closed law of layer 1: all ends with each other.
-/
import Derived.Test.YthaagkhmmoebaaaSatF
import Derived.Test.YthaagkhmmoebaaaSatG
namespace Go.Proofs.Ythaagkhmmoebaaa
open Go.RowKit Go.Sort

/-- The eighteen numbers. -/
def endsS (i : Nat) : Int := [-9223372036854775808, -2, -1, 0, 1, 2, 3, 67108864, 134217727, 134217728, 1099511627776, 4503599627370495, 4503599627370496, 9007199254740990, 9007199254740991, 9007199254740992, 1152921504606846976, 9223372036854775807].getD i 0

theorem ends_cells (w : World) (w1 : World) (h : w1 = w.alloc (.cells #[.int .i64 (-9223372036854775808), .int .i64 (-2), .int .i64 (-1), .int .i64 0, .int .i64 1, .int .i64 2, .int .i64 3, .int .i64 67108864, .int .i64 134217727, .int .i64 134217728, .int .i64 1099511627776, .int .i64 4503599627370495, .int .i64 4503599627370496, .int .i64 9007199254740990, .int .i64 9007199254740991, .int .i64 9007199254740992, .int .i64 1152921504606846976, .int .i64 9223372036854775807] 3)) :
    ∀ n, n < 18 → w1.cell? ⟨w.heap.size, n, none⟩ = some (.int .i64 (endsS n)) := by
  intro n hn
  rw [h, (Blk.new w _ _).cell n]
  rcases (by omega : n = 0 ∨ n = 1 ∨ n = 2 ∨ n = 3 ∨ n = 4 ∨ n = 5 ∨ n = 6 ∨ n = 7 ∨ n = 8 ∨ n = 9 ∨ n = 10 ∨ n = 11 ∨ n = 12 ∨ n = 13 ∨ n = 14 ∨ n = 15 ∨ n = 16 ∨ n = 17) with rfl | rfl | rfl | rfl | rfl | rfl | rfl | rfl | rfl | rfl | rfl | rfl | rfl | rfl | rfl | rfl | rfl | rfl <;> rfl

theorem ends_at {W w1 : World} {g n : Nat} (HC : ∀ n, n < 18 → W.cell? ⟨g, n, none⟩ = some (.int .i64 (endsS n))) (hg : g < W.heap.size) (hb : Below W.heap.size W w1) (hn : n < 18) : w1.cell? ⟨g, n, none⟩ = some (.int .i64 (endsS n)) :=
  (hb.cell (p := ⟨g, n, none⟩) hg).trans (HC n hn)

set_option maxRecDepth 100000 in
theorem satknown_any (w : World) :
    Calls Try.prog 9 #[] w fun e w' => e = .returned (.bool true) ∧ Below w.heap.size w w' := by
  go_enter Try.func9, Try.ntmps9
  go_wp2_with fail
  generalize hW : w.alloc _ = W
  have HC := Lib.hid (ends_cells w W hW.symm)
  have HB : Hid (Below w.heap.size w W) := by rw [← hW]; exact laterA (Below.refl _ _) _
  have hg : w.heap.size < W.heap.size := by rw [← hW]; simp
  clear hW
  go_loopw [2] (fun i wr => ∃ n : Nat, n ≤ 18 ∧ i = .int .i64 n ∧ Below W.heap.size W wr) (fun i _ => 18 - (intOf i).toNat)
  case atStart => exact ⟨0, by omega, rfl, Below.refl _ _⟩
  case round =>
    obtain ⟨n, hn, rfl, hb⟩ := hrel
    have HBr := Lib.hid hb
    clear hb
    by_cases hlt : n < 18
    · obtain ⟨wo, rfl⟩ : ∃ wo : World, wo = wr := ⟨_, rfl⟩
      go_wp2_with fail
      go_loopw [3] (fun k wr => ∃ m : Nat, m ≤ 18 ∧ k = .int .i64 m ∧ Below W.heap.size W wr) (fun k _ => 18 - (intOf k).toNat)
      case atStart => exact ⟨0, by omega, rfl, HBr.out⟩
      case round =>
        obtain ⟨m, hm, rfl, hb⟩ := hrel
        have HBk := Lib.hid hb
        clear hb
        by_cases hlt2 : m < 18
        · have c1 := ends_at HC.out hg HBk.out hlt
          have c2 := ends_at HC.out hg HBk.out hlt2
          go_wp2_with fail
          have d1 := fun d os => cell_regrown c1 d os
          have d2 := fun d os => cell_regrown c2 d os
          clear c1 c2
          have l1 : (n : Int) < 18 := by omega
          have l2 : (m : Int) < 18 := by omega
          refine wp_region_quiet_below (by kernel_rfl) (by kernel_rfl) ?_
          repeat (go_big_quiet_step ((first | (go_at_call 7; with_reducible exact Calls.regrown_of (sattells_any _ _ _)) | (go_at_call 8; with_reducible exact Calls.regrown_of (sattimes_any _ _ _ _ _)))))
          refine wpQuiet_nil ?_
          intro wq hw'
          obtain ⟨⟨dq, osq⟩, hw''⟩ := hw'
          have hbq := regrown_below hw''
          clear hw'' dq osq
          have HBq : Hid (Below W.heap.size W wq) := HBk.out.trans (hbq.mono HBk.out.size)
          clear hbq d1 d2
          obtain ⟨wo2, rfl⟩ : ∃ wo : World, wo = wq := ⟨_, rfl⟩
          go_wp2_with fail
          go_loopw [4] (fun j wr => ∃ l : Nat, l ≤ 18 ∧ j = .int .i64 l ∧ Below W.heap.size W wr) (fun j _ => 18 - (intOf j).toNat)
          case atStart => exact ⟨0, by omega, rfl, HBq.out⟩
          case round =>
            obtain ⟨l, hl, rfl, hb⟩ := hrel
            have HBj := Lib.hid hb
            clear hb
            by_cases hlt3 : l < 18
            · have c1 := ends_at HC.out hg HBj.out hlt
              have c2 := ends_at HC.out hg HBj.out hlt2
              have c3 := ends_at HC.out hg HBj.out hlt3
              have l3 : (l : Int) < 18 := by omega
              have d1 := fun d os => cell_regrown c1 d os
              have d2 := fun d os => cell_regrown c2 d os
              have d3 := fun d os => cell_regrown c3 d os
              clear c1 c2 c3
              go_wp2_with fail
              refine wp_region_quiet_below (by kernel_rfl) (by kernel_rfl) ?_
              repeat (go_big_quiet_step ((first | (go_at_call 3; with_reducible exact Calls.regrown_of (satanswers_any _ _ _ _)) | (go_at_call 4; with_reducible exact Calls.regrown_of (satexact_any _ _ _ _)) | (go_at_call 5; with_reducible exact Calls.regrown_of (satsums_any _ _ _ _)))))
              refine wpQuiet_nil ?_
              intro wq hw'
              obtain ⟨⟨dq, osq⟩, hw''⟩ := hw'
              have hbq := regrown_below hw''
              clear hw'' dq osq
              have HBs : Hid (Below W.heap.size W wq) := HBj.out.trans (hbq.mono HBj.out.size)
              clear hbq d1 d2 d3
              go_wp2_with fail
              go_roundw
              case rel => exact ⟨l + 1, by omega, by go_num, HBs.out⟩
              case measure => simp [intOf]; omega
            · go_wp2_with fail
              go_roundw
              case rel => exact ⟨m + 1, by omega, by go_num, HBj.out⟩
              case measure => simp [intOf]; omega
        · go_wp2_with fail
          go_roundw
          case rel => exact ⟨n + 1, by omega, by go_num, HBk.out⟩
          case measure => simp [intOf]; omega
    · go_wp2_with (go_at_call 26; (with_reducible refine (works_any _).mono ?_); rintro e w1 ⟨rfl, hb⟩)
      go_ret
      exact ⟨rfl, later HB.out (later HBr.out (by assumption))⟩

end Go.Proofs.Ythaagkhmmoebaaa
