/-
  Layer 13: sounderlaw13's same, rate.
-/
import Derived.Test.YtniiemmgcjkphaaBktH
import Derived.Deep.RegionHeld3
namespace Go.Proofs.Ytniiemmgcjkphaa
open Go.RowKit Go.Sort

set_option maxHeartbeats 1000000 in
theorem bsame_any (b m : Nat) (s : Bkt.St) (w : World) (h : Bk w b s) (hm : RBk w m s) (hw : Bkt.wf s) :
    Calls Try.prog 30 #[.pointer (some ⟨b, 0, none⟩), .pointer (some ⟨m, 0, none⟩)] w fun e w' => e = .returned (.bool true) ∧ Below w.heap.size w w' := by
  have c1 := hm.cell 1
  have c2 := hm.cell 2
  have c3 := hm.cell 3
  simp [cellsB] at c1 c2 c3
  replace h := Lib.hid h
  replace hm := Lib.hid hm
  go_enter Try.func30, Try.ntmps30
  go_wp2_with fail
  go_quiet ((first | (go_at_call 20; exact quiet_left (tokens_any b s _ (Blk.drewN h.out _) hw)) | (go_at_call 21; exact quiet_left (rest_any b s _ (Blk.drewN h.out _) hw)) | (go_at_call 31; exact quiet_left (time_at b s _ (Blk.drewN h.out _) hw))))
  go_wp2_with fail
  go_ret
  exact ⟨by simp, laterDN (Below.refl _ _) _⟩

set_option maxHeartbeats 1000000 in
theorem rate_any (x y : Int) (w : World) :
    Calls Try.prog 15 #[.agg #[.int .i64 x, .int .i64 y]] w fun e w' => e = .returned (.agg #[.int .i64 (x % 16777216), .int .i64 (1 + y % 1073741824)]) ∧ Below w.heap.size w w' := by
  have hx := Lib.hid (bring_same x 16777216 (by omega) (by omega))
  have hy := Lib.hid (bring_same y 1073741824 (by omega) (by omega))
  have hx1 := Int.emod_nonneg x (show (16777216 : Int) ≠ 0 by omega)
  have hy1 := Int.emod_nonneg y (show (1073741824 : Int) ≠ 0 by omega)
  have hy2 := Int.emod_lt_of_pos y (show (0 : Int) < 1073741824 by omega)
  generalize x % 16777216 = X at *
  generalize y % 1073741824 = Y at *
  have wY : IntKind.i64.wrap (1 + Y) = 1 + Y := IntWalk.i64_in _ (by omega)
  have r0 := (Blk.new w 22 #[.int .i64 x, .int .i64 y]).alloc (.cells #[.int .i64 0, .int .i64 0] 25)
  have hb := laterA (laterA (Below.refl w.heap.size w) (.cells #[.int .i64 x, .int .i64 y] 22)) (.cells #[.int .i64 0, .int .i64 0] 25)
  have hR := Blk.new2 w (.cells #[.int .i64 x, .int .i64 y] 22) 25 #[.int .i64 0, .int .i64 0]
  go_enter Try.func15, Try.ntmps15
  go_wp2_with fail
  generalize (w.alloc _).alloc _ = W at *
  generalize hD : w.heap.size = D at *
  have c0 := r0.cell 0
  have c1 := r0.cell 1
  simp at c0 c1
  have z0 := hR.frozen 0
  have z1 := hR.frozen 1
  have d0 := hR.cell 0
  have d1 := hR.cell 1
  simp at d0 d1
  replace r0 := Lib.hid r0
  replace hb := Lib.hid hb
  replace hR := Lib.hid hR
  go_region_held3 (fun w' => w'.cell? ⟨D, 0, none⟩ = some (.int .i64 x) ∧ w'.cell? ⟨D, 1, none⟩ = some (.int .i64 y)) (first | exact ⟨c0, c1⟩ | go_keep) (first | (go_at_call 16; (with_reducible refine (hx.out _).mono ?_); rintro e w1 ⟨rfl, rfl⟩) | (go_at_call 16; (with_reducible refine (hy.out _).mono ?_); rintro e w1 ⟨rfl, rfl⟩))
  go_wp2_with fail
  have q0 := (((hR.out).set_ 0 (.int .i64 X)).set_ 1 (.int .i64 (1 + Y))).cell 0
  have q1 := (((hR.out).set_ 0 (.int .i64 X)).set_ 1 (.int .i64 (1 + Y))).cell 1
  simp at q0 q1
  refine bodyPost_ret (v := .agg #[.int .i64 X, .int .i64 (1 + Y)]) (by simp [results, Try.results15, go_sem, q0, q1]) rfl ⟨rfl, ?_⟩
  have hh : D ≤ D + 1 := by omega
  subst hD
  exact (((hb.out).setCell hh _).setCell hh _).drew

theorem Bk.kept {w w' : World} {b : Nat} {s : Bkt.St} (h : Bk w b s) (hb : Below w.heap.size w w') : Bk w' b s := h.later hb
theorem RBk.kept {w w' : World} {b : Nat} {s : Bkt.St} (h : RBk w b s) (hb : Below w.heap.size w w') : RBk w' b s := h.later hb
theorem Bk.but {w w' : World} {b b' : Nat} {s : Bkt.St} (h : Bk w b s) (ho : w.grownBy w' (some b')) (hne : b ≠ b') : Bk w' b s := h.one ho hne
theorem RBk.but {w w' : World} {b b' : Nat} {s : Bkt.St} (h : RBk w b s) (ho : w.grownBy w' (some b')) (hne : b ≠ b') : RBk w' b s := h.one ho hne
theorem Bk.drew {w : World} {b : Nat} {s : Bkt.St} (h : Bk w b s) : Bk w.drew b s := h
theorem RBk.drew {w : World} {b : Nat} {s : Bkt.St} (h : RBk w b s) : RBk w.drew b s := h
theorem one_undrew {a b : World} {row : Option Nat} (h : a.drew.grownBy b row) : a.grownBy b row := ⟨h.os, h.tape, h.output, h.size, h.block⟩
theorem low_undrew {a b : World} (h : Below a.drew.heap.size a.drew b) : Below a.heap.size a b := ⟨h.os, h.tape, h.output, h.size, h.block⟩

namespace Bkt
theorem wf_fillS {s : St} (h : wf s) (t num den : Int) : wf (fillS s t num den) := by
  unfold fillS
  by_cases e : fillE s t num den = 0
  · rw [if_pos e]
    unfold fillE at e
    by_cases c : (Sat.isN t && may num den) = true
    · obtain ⟨c1, c2⟩ := Bool.and_eq_true_iff.1 c
      obtain ⟨_, t1⟩ := (Sat.isN_iff t).1 c1
      obtain ⟨m0, m1, m2, m3⟩ := (may_iff num den).1 c2
      rw [if_pos c] at e
      by_cases ht : t < s.t
      · rw [if_pos ht] at e; omega
      · exact wf_fill h (by omega) t1 m0 m2
    · rw [if_neg c] at e; omega
  · rw [if_neg e]; exact h
theorem wf_takeS {s : St} (h : wf s) (k : Int) : wf (takeS s k) := by
  unfold takeS
  by_cases e : takeE s k = 0
  · rw [if_pos e]
    have h0 : 0 ≤ k ∧ k ≤ s.n := by unfold takeE at e; split at e; omega; split at e <;> omega
    exact ⟨h.B0, h.B1, by have := h.n0; simp only; omega, by have := h.n1; simp only; omega, h.r0, h.r1, h.t0, h.t1⟩
  · rw [if_neg e]; exact h
end Bkt
end Go.Proofs.Ytniiemmgcjkphaa
