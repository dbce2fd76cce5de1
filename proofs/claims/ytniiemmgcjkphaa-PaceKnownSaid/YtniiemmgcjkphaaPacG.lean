/-
  Layer 14: pacers that are none; the closed law.
-/
import Derived.Test.YtniiemmgcjkphaaPacE
import Derived.Test.YtniiemmgcjkphaaBktQ
import Derived.Deep.RegionHeld3
namespace Go.Proofs.Ytniiemmgcjkphaa
open Go.RowKit Go.Sort

/-- p is no pacer, now and later. -/
def NoP (w : World) (p : Option Addr) : Prop := ∀ w1, Below w.heap.size w w1 → Calls Try.prog 64 #[.pointer p] w1 fun e w' => e = .returned (.bool true) ∧ w1 = w'
theorem NoP.later {w w' : World} {p : Option Addr} (h : NoP w p) (hb : Below w.heap.size w w') : NoP w' p := fun w1 h1 => h w1 (Go.Proofs.Ytniiemmgcjkphaa.later hb h1)

theorem nop_nil (w : World) : NoP w none := by
  intro w1 _
  go_enter Try.func64, Try.ntmps64
  go_wp2
  go_ret
  exact ⟨rfl, rfl⟩

theorem nop_zero (b : Nat) (w : World) (h : Blk w b 96 #[.pointer none, .int .i64 0, .int .i64 0]) : NoP w (some ⟨b, 0, none⟩) := by
  intro w1 h1
  have c0 := (Blk.later h h1).cell 0
  simp at c0
  clear h h1
  go_enter Try.func64, Try.ntmps64
  go_wp2
  go_ret
  exact ⟨rfl, rfl⟩

theorem nset_p (p : Option Addr) (t c s : Int) (w : World) (h : NoP w p) :
    Calls Try.prog 35 #[.pointer p, .int .i64 t, .int .i64 c, .int .i64 s] w fun e w' => e = .returned (.int .i64 1) ∧ Below w.heap.size w w' := by
  have H := h _ (Below.refl _ _)
  replace H := Lib.hid H
  clear h
  go_enter Try.func35, Try.ntmps35
  go_wp2_with fail
  refine Calls.mono H.out ?_
  rintro e w1 ⟨rfl, rfl⟩
  go_wp2
  go_ret
  exact ⟨rfl, Below.refl _ _⟩

theorem nasked_true (p : Option Addr) (t k : Int) (w : World) (h : NoP w p) :
    Calls Try.prog 69 #[.pointer p, .func (.func 70) #[] #[], .int .i64 t, .int .i64 k, .bool true] w fun e w' => e = .returned (.int .i64 1) ∧ w = w' := by
  have H := h _ (Below.refl _ _)
  replace H := Lib.hid H
  clear h
  go_enter Try.func69, Try.ntmps69
  go_wp2_with fail
  refine Calls.mono H.out ?_
  rintro e w1 ⟨rfl, rfl⟩
  go_wp2
  go_ret
  exact ⟨rfl, rfl⟩

theorem nasked_false (p : Option Addr) (t k : Int) (w : World) (h : NoP w p) :
    Calls Try.prog 69 #[.pointer p, .func (.func 70) #[] #[], .int .i64 t, .int .i64 k, .bool false] w fun e w' => e = .returned (.int .i64 1) ∧ w = w' := by
  have H := h _ (Below.refl _ _)
  replace H := Lib.hid H
  clear h
  go_enter Try.func69, Try.ntmps69
  go_wp2_with fail
  refine Calls.mono H.out ?_
  rintro e w1 ⟨rfl, rfl⟩
  go_wp2
  go_ret
  exact ⟨rfl, rfl⟩

theorem nsend_p (p : Option Addr) (t k : Int) (w : World) (h : NoP w p) :
    Calls Try.prog 37 #[.pointer p, .int .i64 t, .int .i64 k] w fun e w' => e = .returned (.int .i64 1) ∧ Below w.heap.size w w' := by
  have H := Lib.hid (nasked_true p t k w h)
  clear h
  go_enter Try.func37, Try.ntmps37
  go_wp2_with fail
  refine Calls.mono H.out ?_
  rintro e w1 ⟨rfl, rfl⟩
  go_wp2
  go_ret
  exact ⟨rfl, Below.refl _ _⟩

theorem ncan_p (p : Option Addr) (t k : Int) (w : World) (h : NoP w p) :
    Calls Try.prog 45 #[.pointer p, .int .i64 t, .int .i64 k] w fun e w' => e = .returned (.bool false) ∧ Below w.heap.size w w' := by
  have H := Lib.hid (nasked_false p t k w h)
  clear h
  go_enter Try.func45, Try.ntmps45
  go_wp2_with fail
  refine Calls.mono H.out ?_
  rintro e w1 ⟨rfl, rfl⟩
  go_wp2
  go_ret
  exact ⟨rfl, Below.refl _ _⟩

theorem nwhen_p (p : Option Addr) (k : Int) (w : World) (h : NoP w p) :
    Calls Try.prog 44 #[.pointer p, .int .i64 k] w fun e w' => e = .returned (.int .i64 (-1)) ∧ Below w.heap.size w w' := by
  have H := h _ (Below.refl _ _)
  replace H := Lib.hid H
  clear h
  go_enter Try.func44, Try.ntmps44
  go_wp2_with fail
  refine Calls.mono H.out ?_
  rintro e w1 ⟨rfl, rfl⟩
  go_wp2
  go_ret
  exact ⟨rfl, Below.refl _ _⟩

theorem nleft_p (p : Option Addr) (k : Int) (w : World) (h : NoP w p) :
    Calls Try.prog 48 #[.pointer p, .int .i64 k] w fun e w' => e = .returned (.int .i64 0) ∧ Below w.heap.size w w' := by
  have H := h _ (Below.refl _ _)
  replace H := Lib.hid H
  clear h
  go_enter Try.func48, Try.ntmps48
  go_wp2_with fail
  refine Calls.mono H.out ?_
  rintro e w1 ⟨rfl, rfl⟩
  go_wp2
  go_ret
  exact ⟨rfl, Below.refl _ _⟩

theorem nrate_p (p : Option Addr) (w : World) (h : NoP w p) :
    Calls Try.prog 46 #[.pointer p] w fun e w' => e = .returned (.agg #[.int .i64 0, .int .i64 0]) ∧ Below w.heap.size w w' := by
  have hb := laterA (Below.refl w.heap.size w) (.cells #[.int .i64 0, .int .i64 0] 25)
  have H := h _ hb
  replace H := Lib.hid H
  replace hb := Lib.hid hb
  clear h
  go_enter Try.func46, Try.ntmps46
  go_wp2_with fail
  refine Calls.mono H.out ?_
  rintro e w1 ⟨rfl, rfl⟩
  go_wp2
  refine bodyPost_ret (v := .agg #[.int .i64 0, .int .i64 0]) (by simp [results, Try.results46, go_sem]) rfl ⟨rfl, hb.out⟩

theorem ncopy_p (p : Option Addr) (w : World) (h : NoP w p) :
    Calls Try.prog 39 #[.pointer p] w fun e w' => e = .returned (.pointer none) ∧ Below w.heap.size w w' := by
  have H := h _ (Below.refl _ _)
  replace H := Lib.hid H
  clear h
  go_enter Try.func39, Try.ntmps39
  go_wp2_with fail
  refine Calls.mono H.out ?_
  rintro e w1 ⟨rfl, rfl⟩
  go_wp2
  go_ret
  exact ⟨rfl, Below.refl _ _⟩

def endsP (i : Nat) : Int := [-9223372036854775808, -1, 0, 1, 5, 1200, 65535, 65536, 1073741824, 1073741825, 1099511627776, 1099511627777, 2251799813685249, 9007199254740991, 9007199254740992, 9223372036854775807].getD i 0

theorem pends_cells (w : World) (w1 : World) (h : w1 = w.alloc (.cells #[.int .i64 (-9223372036854775808), .int .i64 (-1), .int .i64 0, .int .i64 1, .int .i64 5, .int .i64 1200, .int .i64 65535, .int .i64 65536, .int .i64 1073741824, .int .i64 1073741825, .int .i64 1099511627776, .int .i64 1099511627777, .int .i64 2251799813685249, .int .i64 9007199254740991, .int .i64 9007199254740992, .int .i64 9223372036854775807] 3)) :
    ∀ n, n < 16 → w1.cell? ⟨w.heap.size, n, none⟩ = some (.int .i64 (endsP n)) := by
  intro n hn
  rw [h, (Blk.new w _ _).cell n]
  rcases (by omega : n = 0 ∨ n = 1 ∨ n = 2 ∨ n = 3 ∨ n = 4 ∨ n = 5 ∨ n = 6 ∨ n = 7 ∨ n = 8 ∨ n = 9 ∨ n = 10 ∨ n = 11 ∨ n = 12 ∨ n = 13 ∨ n = 14 ∨ n = 15) with rfl | rfl | rfl | rfl | rfl | rfl | rfl | rfl | rfl | rfl | rfl | rfl | rfl | rfl | rfl | rfl <;> rfl

theorem pends_at {W w1 : World} {g n : Nat} (HC : ∀ n, n < 16 → W.cell? ⟨g, n, none⟩ = some (.int .i64 (endsP n))) (hg : g < W.heap.size) (hb : Below W.heap.size W w1) (hn : n < 16) : w1.cell? ⟨g, n, none⟩ = some (.int .i64 (endsP n)) :=
  (hb.cell (p := ⟨g, n, none⟩) hg).trans (HC n hn)

theorem pplays7 (B t a b : Int) (H : Nat) (w : World) (h : Blk w H 69 #[.int .i64 0, .int .i64 5, .int .i64 a, .int .i64 b, .int .i64 1, .int .i64 5, .int .i64 0, .int .i64 900, .int .i64 1, .int .i64 b, .int .i64 0, .int .i64 a, .int .i64 4, .int .i64 9, .int .i64 0, .int .i64 9, .int .i64 0, .int .i64 a, .int .i64 1200, .int .i64 3, .int .i64 1, .int .i64 b, .int .i64 0, .int .i64 100, .int .i64 5, .int .i64 a, .int .i64 0, .int .i64 b]) :
    Calls Try.prog 9 #[.int .i64 B, .int .i64 t, .slice (some ⟨H, 0, none⟩) 7 7] w fun e w' => e = .returned (.bool true) ∧ Below w.heap.size w w' :=
  pplays_any B t _ 7 7 _ w (by omega) (rd_of_blk h 4 7 rfl rfl)

set_option maxHeartbeats 4000000 in
set_option maxRecDepth 100000 in
theorem pknown_any (w : World) :
    Calls Try.prog 14 #[] w fun e w' => e = .returned (.bool true) ∧ Below w.heap.size w w' := by
  go_enter Try.func14, Try.ntmps14
  go_wp2_with fail
  generalize hW : w.alloc _ = W
  have HC := Lib.hid (pends_cells w W hW.symm)
  have HB : Hid (Below w.heap.size w W) := by rw [← hW]; exact laterA (Below.refl _ _) _
  have hg : w.heap.size < W.heap.size := by rw [← hW]; simp
  clear hW
  go_loopw [2] (fun i wr => ∃ n : Nat, n ≤ 16 ∧ i = .int .i64 n ∧ Below W.heap.size W wr) (fun i _ => 16 - (intOf i).toNat)
  case atStart => exact ⟨0, by omega, rfl, Below.refl _ _⟩
  case round =>
    obtain ⟨n, hn, rfl, hb⟩ := hrel
    have HBr := Lib.hid hb
    clear hb
    by_cases hlt : n < 16
    · obtain ⟨wo, rfl⟩ : ∃ wo : World, wo = wr := ⟨_, rfl⟩
      have l1 : (n : Int) < 16 := by omega
      go_wp2_with fail
      go_loopw [3] (fun k wr => ∃ m : Nat, m ≤ 16 ∧ k = .int .i64 m ∧ Below W.heap.size W wr) (fun k _ => 16 - (intOf k).toNat)
      case atStart => exact ⟨0, by omega, rfl, HBr.out⟩
      case round =>
        obtain ⟨m, hm, rfl, hb⟩ := hrel
        have HBk := Lib.hid hb
        clear hb
        by_cases hlt2 : m < 16
        · have c1 := pends_at HC.out hg HBk.out hlt
          have c2 := pends_at HC.out hg HBk.out hlt2
          have l2 : (m : Int) < 16 := by omega
          obtain ⟨a, ha⟩ : ∃ a, endsP n = a := ⟨_, rfl⟩
          obtain ⟨b, hb⟩ : ∃ b, endsP m = b := ⟨_, rfl⟩
          have hA := fun w1 h => (pends_at (w1 := w1) HC.out hg h hlt).trans (by rw [ha])
          have hB := fun w1 h => (pends_at (w1 := w1) HC.out hg h hlt2).trans (by rw [hb])
          rw [ha] at c1
          rw [hb] at c2
          replace hA := Lib.hid hA
          replace hB := Lib.hid hB
          clear ha hb
          have hgk : w.heap.size < wr.heap.size := Nat.lt_of_lt_of_le hg HBk.out.size
          go_wp2_with fail
          go_region_held3 (fun w' => w'.cell? ⟨w.heap.size, n, none⟩ = some (.int .i64 a) ∧ w'.cell? ⟨w.heap.size, m, none⟩ = some (.int .i64 b)) (first | exact ⟨c1, c2⟩ | go_keep) (fail)
          go_wp2_with fail
          have hL := (Blk.new wr 69 #[.int .i64 0, .int .i64 5, .int .i64 a, .int .i64 b, .int .i64 1, .int .i64 5, .int .i64 0, .int .i64 900, .int .i64 1, .int .i64 b, .int .i64 0, .int .i64 a, .int .i64 4, .int .i64 9, .int .i64 0, .int .i64 9, .int .i64 0, .int .i64 a, .int .i64 1200, .int .i64 3, .int .i64 1, .int .i64 b, .int .i64 0, .int .i64 100, .int .i64 5, .int .i64 a, .int .i64 0, .int .i64 b]).drew
          have hb2 := laterD (laterA (Below.refl wr.heap.size wr) (.cells #[.int .i64 0, .int .i64 5, .int .i64 a, .int .i64 b, .int .i64 1, .int .i64 5, .int .i64 0, .int .i64 900, .int .i64 1, .int .i64 b, .int .i64 0, .int .i64 a, .int .i64 4, .int .i64 9, .int .i64 0, .int .i64 9, .int .i64 0, .int .i64 a, .int .i64 1200, .int .i64 3, .int .i64 1, .int .i64 b, .int .i64 0, .int .i64 100, .int .i64 5, .int .i64 a, .int .i64 0, .int .i64 b] 69))
          replace hb2 := old_later HBk.out hb2 HBk.out.size
          generalize World.drew _ = w2 at *
          generalize wr.heap.size = H at *
          have d1 := hA.out _ hb2
          have d2 := hB.out _ hb2
          replace hL := Lib.hid hL
          replace hb2 := Lib.hid hb2
          go_region_held3 (fun w' => w'.cell? ⟨w.heap.size, n, none⟩ = some (.int .i64 a) ∧ w'.cell? ⟨w.heap.size, m, none⟩ = some (.int .i64 b)) (first | exact ⟨d1, d2⟩ | exact ⟨e1, e2⟩ | exact ⟨f1, f2⟩ | exact ⟨g1, g2⟩) (first | (go_at_call 9; (with_reducible refine (pplays7 b a a b H _ (Blk.drew hL.out)).mono ?_); rintro e w3 ⟨rfl, hb3⟩; have hb3 := low_undrew hb3; have hL3 := Lib.hid (hL.out.later hb3); have hb3 := old_later hb2.out hb3 hb2.out.size; have e1 := hA.out _ hb3; have e2 := hB.out _ hb3; have hb3 := Lib.hid hb3) | (go_at_call 9; (with_reducible refine (pplays7 1000 5 a b H _ hL3.out).mono ?_); rintro e w4 ⟨rfl, hb4⟩; have hL4 := Lib.hid (hL3.out.later hb4); have hb4 := old_later hb3.out hb4 hb3.out.size; have f1 := hA.out _ hb4; have f2 := hB.out _ hb4; have hb4 := Lib.hid hb4) | (go_at_call 9; (with_reducible refine (pplays7 1073741824 0 a b H _ hL4.out).mono ?_); rintro e w5 ⟨rfl, hb5⟩; have hb5 := old_later hb4.out hb5 hb4.out.size; have g1 := hA.out _ hb5; have g2 := hB.out _ hb5; have hb5 := Lib.hid hb5))
          go_wp2_with fail
          go_roundw
          case rel => exact ⟨m + 1, by omega, by go_num, hb5.out⟩
          case measure => simp [intOf]; omega
        · go_wp2_with fail
          go_roundw
          case rel => exact ⟨n + 1, by omega, by go_num, HBk.out⟩
          case measure => simp [intOf]; omega
    · have HB0 := Lib.hid (later HB.out HBr.out)
      clear HBr HC
      go_wp2_with fail
      refine wp_loop_rounds 3 ?_
      rw [rounds_succ]
      go_wp2_with fail
      refine (nset_p _ _ _ _ _ (nop_nil _)).mono ?_
      rintro e w1 ⟨rfl, hb⟩
      replace HB0 := Lib.hid (later HB0.out hb)
      clear hb
      go_wp2_with fail
      refine (nsend_p _ _ _ _ (nop_nil _)).mono ?_
      rintro e w1 ⟨rfl, hb⟩
      replace HB0 := Lib.hid (later HB0.out hb)
      clear hb
      go_wp2_with fail
      refine (ncan_p _ _ _ _ (nop_nil _)).mono ?_
      rintro e w1 ⟨rfl, hb⟩
      replace HB0 := Lib.hid (later HB0.out hb)
      clear hb
      go_wp2_with fail
      refine (nwhen_p _ _ _ (nop_nil _)).mono ?_
      rintro e w1 ⟨rfl, hb⟩
      replace HB0 := Lib.hid (later HB0.out hb)
      clear hb
      go_wp2_with fail
      refine (nleft_p _ _ _ (nop_nil _)).mono ?_
      rintro e w1 ⟨rfl, hb⟩
      replace HB0 := Lib.hid (later HB0.out hb)
      clear hb
      go_wp2_with fail
      refine (nrate_p _ _ (nop_nil _)).mono ?_
      rintro e w1 ⟨rfl, hb⟩
      replace HB0 := Lib.hid (later HB0.out hb)
      clear hb
      go_wp2_with fail
      refine (ncopy_p _ _ (nop_nil _)).mono ?_
      rintro e w1 ⟨rfl, hb⟩
      replace HB0 := Lib.hid (later HB0.out hb)
      clear hb
      go_wp2_with fail
      rw [rounds_succ]
      have hz := Lib.hid (nop_zero _ _ (Blk.new w1 96 #[.pointer none, .int .i64 0, .int .i64 0]))
      replace HB0 := Lib.hid (laterA HB0.out (.cells #[.pointer none, .int .i64 0, .int .i64 0] 96))
      generalize w1.alloc _ = v0 at *
      generalize w1.heap.size = Z at *
      go_wp2_with fail
      refine (nset_p _ _ _ _ _ hz.out).mono ?_
      rintro e w1 ⟨rfl, hb⟩
      replace HB0 := Lib.hid (later HB0.out hb)
      replace hz := Lib.hid (NoP.later hz.out hb)
      clear hb
      go_wp2_with fail
      refine (nsend_p _ _ _ _ hz.out).mono ?_
      rintro e w1 ⟨rfl, hb⟩
      replace HB0 := Lib.hid (later HB0.out hb)
      replace hz := Lib.hid (NoP.later hz.out hb)
      clear hb
      go_wp2_with fail
      refine (ncan_p _ _ _ _ hz.out).mono ?_
      rintro e w1 ⟨rfl, hb⟩
      replace HB0 := Lib.hid (later HB0.out hb)
      replace hz := Lib.hid (NoP.later hz.out hb)
      clear hb
      go_wp2_with fail
      refine (nwhen_p _ _ _ hz.out).mono ?_
      rintro e w1 ⟨rfl, hb⟩
      replace HB0 := Lib.hid (later HB0.out hb)
      replace hz := Lib.hid (NoP.later hz.out hb)
      clear hb
      go_wp2_with fail
      refine (nleft_p _ _ _ hz.out).mono ?_
      rintro e w1 ⟨rfl, hb⟩
      replace HB0 := Lib.hid (later HB0.out hb)
      replace hz := Lib.hid (NoP.later hz.out hb)
      clear hb
      go_wp2_with fail
      refine (nrate_p _ _ hz.out).mono ?_
      rintro e w1 ⟨rfl, hb⟩
      replace HB0 := Lib.hid (later HB0.out hb)
      replace hz := Lib.hid (NoP.later hz.out hb)
      clear hb
      go_wp2_with fail
      refine (ncopy_p _ _ hz.out).mono ?_
      rintro e w1 ⟨rfl, hb⟩
      replace HB0 := Lib.hid (later HB0.out hb)
      replace hz := Lib.hid (NoP.later hz.out hb)
      clear hb
      go_wp2_with fail
      rw [rounds_succ]
      replace HB0 := Lib.hid (laterA HB0.out (.cells #[.pointer none, .int .i64 0, .int .i64 0] 96))
      clear hz
      generalize w1.alloc _ = v1 at *
      go_wp2_with fail
      refine (pworks_any _).mono ?_
      rintro e wy ⟨rfl, hb2⟩
      replace HB0 := Lib.hid (later HB0.out hb2)
      clear hb2
      go_wp2_with fail
      go_ret
      exact ⟨rfl, HB0.out⟩
end Go.Proofs.Ytniiemmgcjkphaa
