/-
  Layer 5: FrameWaits, FrameDoubles.
-/
import Derived.Test.YtpagdcobhbkabaaDoorFrS
import Derived.Test.YtpagdcobhbkabaaDoorBring
namespace Go.Proofs.YtpagdcobhbkabaaDoor
open Go.RowKit Go.Sort Go.Shelf Go.Deep Go.WideShapes

set_option maxRecDepth 100000 in
theorem fwaits_any (d x : Int) (w : World) (hL : Lim w) : Calls Tryd.prog 6 #[.int .i64 d, .int .i64 x] w fun e w' => e = .returned (.bool true) ∧ Below w.heap.size w w' := by
  have h1 := fwait_any d x w
  have h2 := fun w => rwait_any d x w
  generalize (if Frm.waitOk d x = true then Frm.wait d x else 0) = A at *
  generalize (if Frm.waitOk d x = true then (0 : Int) else 9) = B at *
  have hw := fun w1 h => fworks_any w1 (hL.later h)
  replace hL := Lib.hid hL
  go_enter Tryd.func6, Tryd.ntmps6
  go_wp2_with fail
  with_reducible refine h1.mono ?_
  rintro e w1 ⟨rfl, hb⟩
  have hW := hw w1 hb
  replace hb := Lib.hid hb
  clear h1 hw
  go_wp2_with fail
  with_reducible refine (h2 w1).mono ?_
  rintro e w2 ⟨rfl, rfl⟩
  clear h2
  go_wp2_with fail
  with_reducible refine hW.mono ?_
  rintro e w2 ⟨rfl, hb2⟩
  go_wp2
  go_ret
  exact ⟨rfl, old_later2 hb.out hb2 hb.out.size⟩
set_option maxRecDepth 100000 in
theorem fdoubles_any (d0 x0 : Int) (w : World) (hL : Lim w) : Calls Tryd.prog 10 #[.int .i64 d0, .int .i64 x0] w fun e w' => e = .returned (.bool true) ∧ Below w.heap.size w w' := by
  have hb1 := fun w => bring_same d0 9007199254740992 (by omega) (by omega) w
  have hb2 := fun w => bring_same x0 20 (by omega) (by omega) w
  have d1 := Int.emod_nonneg d0 (show (9007199254740992 : Int) ≠ 0 by omega)
  have d2 := Int.emod_lt_of_pos d0 (show (0 : Int) < 9007199254740992 by omega)
  have x1 := Int.emod_nonneg x0 (show (20 : Int) ≠ 0 by omega)
  have x2 := Int.emod_lt_of_pos x0 (show (0 : Int) < 20 by omega)
  generalize d0 % 9007199254740992 = d at *
  generalize x0 % 20 = x at *
  have k1 : Frm.waitOk d x = true := by unfold Frm.waitOk; rw [(Frm.isN_iff d).2 (by omega), decide_eq_true (show 0 ≤ x by omega), decide_eq_true (show x ≤ 20 by omega)]; rfl
  have k2 : Frm.waitOk d (x + 1) = true := by unfold Frm.waitOk; rw [(Frm.isN_iff d).2 (by omega), decide_eq_true (show 0 ≤ x + 1 by omega), decide_eq_true (show x + 1 ≤ 20 by omega)]; rfl
  have k3 : Frm.waitOk d 0 = true := by unfold Frm.waitOk; rw [(Frm.isN_iff d).2 (by omega)]; rfl
  have m2 : Frm.wait d (x + 1) = min (2 * Frm.wait d x) 9007199254740991 := by
    have := Frm.wait_double d1 x.toNat
    rw [show ((x.toNat : Nat) : Int) = x by omega] at this
    exact this
  have m3 := Frm.wait_zero d1 (show d ≤ 9007199254740991 by omega)
  have a0 : 0 ≤ Frm.wait d x ∧ Frm.wait d x ≤ 9007199254740991 := by
    have : 0 ≤ d * 2 ^ x.toNat := Int.mul_nonneg d1 (Int.le_of_lt (Int.pow_pos (by decide)))
    unfold Frm.wait
    omega
  have h1 := fun w => fwait_any d x w
  have h2 := fun w => fwait_any d (x + 1) w
  have h3 := fun w => fwait_any d 0 w
  simp only [k1, k2, k3, if_true, m2, m3] at h1 h2 h3
  generalize Frm.wait d x = A at *
  have w1 : IntKind.i64.wrap (x + 1) = x + 1 := IntWalk.i64_in _ (by omega)
  have w2 : IntKind.i64.wrap (2 * A) = 2 * A := IntWalk.i64_in _ (by omega)
  have w3 : IntKind.i64.wrap (1000 * d) = 1000 * d := IntWalk.i64_in _ (by omega)
  obtain ⟨B, hB⟩ : ∃ B, min (2 * A) 9007199254740991 = B := ⟨_, rfl⟩
  obtain ⟨C, hC⟩ : ∃ C, min (1000 * d) 9007199254740991 = C := ⟨_, rfl⟩
  rw [hB] at h2
  rw [hC] at h3
  have hw := fun w1 h => fworks_any w1 (hL.later h)
  clear k1 k2 k3 m2 m3 a0 d1 d2 x1 x2
  replace hL := Lib.hid hL
  go_enter Tryd.func10, Tryd.ntmps10
  go_wp2_with fail
  with_reducible refine (hb1 w).mono ?_
  rintro e w4 ⟨rfl, rfl⟩
  go_wp2_with fail
  with_reducible refine (hb2 w).mono ?_
  rintro e w4 ⟨rfl, rfl⟩
  clear hb1 hb2
  go_wp2_with fail
  with_reducible refine (h1 w).mono ?_
  rintro e w4 ⟨rfl, hb⟩
  have hlow := Lib.hid hb
  clear hb h1
  go_wp2_with fail
  with_reducible refine (h2 w4).mono ?_
  rintro e w5 ⟨rfl, hb⟩
  replace hlow := Lib.hid (old_later2 hlow.out hb hlow.out.size)
  clear hb h2
  go_wp2_with fail
  with_reducible refine (h3 w5).mono ?_
  rintro e w6 ⟨rfl, hb⟩
  replace hlow := Lib.hid (old_later2 hlow.out hb hlow.out.size)
  clear hb h3
  have hW := hw w6 hlow.out
  clear hw
  go_wp2_with fail
  with_reducible refine hW.mono ?_
  rintro e w7 ⟨rfl, hb2⟩
  go_wp2
  go_ret
  exact ⟨rfl, old_later2 hlow.out hb2 hlow.out.size⟩
end Go.Proofs.YtpagdcobhbkabaaDoor
