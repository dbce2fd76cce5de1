/-
  Layer 2: class, Size; the library's Index, Clone and Grow at this program.
-/
import Derived.Test.YtpagdcobhbkabaaDoorKit
import Derived.Test.YtpagdcobhbkabaaDoorOct
import Derived.Test.YtpagdcobhbkabaaDoorShelf
import Derived.Test.YtpagdcobhbkabaaDoorRead
import Derived.Shelf.SlicesE.Clone
import Derived.Shelf.Spec.SlicesGrow
import Derived.Lib.SliceRun
import Derived.OwnWalk
namespace Go.Proofs.YtpagdcobhbkabaaDoor
open Go.RowKit Go.Sort Go.Shelf Go.Deep Go.WideShapes

/-- The package's table of limits. -/
def Lim (w : World) : Prop := ∀ k, k < 4 → w.cell? ⟨0, k, none⟩ = some (.int .i64 (([63, 16383, 1073741823, 9007199254740991] : List Int).getD k 0))
theorem Lim.lt {w : World} (h : Lim w) : 0 < w.heap.size := block_lt_of_cell (h 0 (by omega))
theorem Lim.later {w w' : World} (h : Lim w) (hb : Below w.heap.size w w') : Lim w' := fun k hk => (hb.cell (p := ⟨0, k, none⟩) h.lt).trans (h k hk)
theorem Lim.alloc {w : World} (h : Lim w) (o : Obj) : Lim (w.alloc o) := h.later (laterA (Below.refl _ _) o)

theorem pred_class (n : Int) (B : Nat) (w : World) (hB : B < w.heap.size) (hcell : w.cell? ⟨B, 0, none⟩ = some (.int .i64 n)) :
    PredAt Tryd.prog 73 #[.pointer (some ⟨B, 0, none⟩)] (Value.int .i64) (fun x => decide (n ≤ x)) w := fun W x hb => by
  have hc : W.cell? ⟨B, 0, none⟩ = some (.int .i64 n) := (hb.cell (p := ⟨B, 0, none⟩) hB).trans hcell
  show Calls Tryd.prog 73 #[.int .i64 x, .pointer (some ⟨B, 0, none⟩)] W _
  go_enter Tryd.func73, Tryd.ntmps73
  go_wp2
  all_goals (go_ret; exact ⟨by simp_all, 0, rfl⟩)

theorem cls_idx (n : Int) (h : ¬ n < 0) : Lib.idxBy (fun _ y => decide (n ≤ y)) ([63, 16383, 1073741823, 9007199254740991] : List Int) default = Oct.cls n := by
  unfold Oct.cls
  rw [if_neg h]
  simp only [Lib.idxBy, Lib.idxByFrom, decide_eq_true_eq]
  rfl

set_option maxHeartbeats 1000000 in
theorem class_any (n : Int) (w : World) (hL : Lim w) : Calls Tryd.prog 66 #[.int .i64 n] w fun e w' => e = .returned (.int .i64 (Oct.cls n)) ∧ Below w.heap.size w w' := by
  by_cases h : n < 0
  · have hc : Oct.cls n = -1 := by unfold Oct.cls; rw [if_pos h]
    rw [hc]
    clear hL hc
    go_enter Tryd.func66, Tryd.ntmps66
    go_wp2
    go_ret
    exact ⟨rfl, laterA (Below.refl _ _) _⟩
  · have eg : ∀ args w, (callFunc 73 args).run Tryd.prog w = .ok (.enter 73 args) w := enters_of Tryd.func73 (by kernel_rfl) rfl
    have hcon := Tryd.slices_IndexFunc (Value.int .i64) (fun x => decide (n ≤ x)) 73 #[.pointer (some ⟨w.heap.size, 0, none⟩)] eg 0 0 4 4 ([63, 16383, 1073741823, 9007199254740991] : List Int) (w.alloc (.cells #[.int .i64 n] 3))
      (pred_class n w.heap.size _ (by simp) (by simp)) (by decide) (by decide) (fun j hj => by
        have := (hL.alloc (.cells #[.int .i64 n] 3)) j (by simpa using hj)
        rw [Nat.zero_add, this]
        simp at hj
        rcases j with _ | _ | _ | _ | j
        · rfl
        · rfl
        · rfl
        · rfl
        · omega)
    rw [List.take_of_length_le (by decide), cls_idx n h] at hcon
    generalize Oct.cls n = r at hcon ⊢
    clear hL
    go_enter Tryd.func66, Tryd.ntmps66
    go_wp2_with (go_at_call 72; refine hcon.mono ?_; rintro e w' ⟨rfl, q, rfl⟩)
    go_ret
    exact ⟨rfl, laterDN (laterA (Below.refl _ _) _) q⟩

theorem cls_range (n : Int) : -1 ≤ Oct.cls n ∧ Oct.cls n ≤ 3 := by unfold Oct.cls; repeat' split <;> omega
theorem size_cls (n : Int) : (Oct.cls n = -1 ∧ Oct.size n = 0) ∨ (Oct.cls n = 0 ∧ Oct.size n = 1) ∨ (Oct.cls n = 1 ∧ Oct.size n = 2) ∨ (Oct.cls n = 2 ∧ Oct.size n = 4) ∨ (Oct.cls n = 3 ∧ Oct.size n = 8) := by
  unfold Oct.cls Oct.size; repeat' split <;> omega

theorem size_any (n : Int) (w : World) (hL : Lim w) : Calls Tryd.prog 56 #[.int .i64 n] w fun e w' => e = .returned (.int .i64 (Oct.size n)) ∧ Below w.heap.size w w' := by
  have hc := class_any n w hL
  clear hL
  rcases size_cls n with ⟨h1, h2⟩ | ⟨h1, h2⟩ | ⟨h1, h2⟩ | ⟨h1, h2⟩ | ⟨h1, h2⟩ <;> rw [h1] at hc <;> rw [h2] <;> clear h1 h2
  all_goals go_enter Tryd.func56, Tryd.ntmps56
  all_goals go_wp2_with fail
  all_goals refine hc.mono ?_
  all_goals rintro e w1 ⟨rfl, hb⟩
  all_goals go_wp2
  all_goals go_ret
  all_goals exact ⟨rfl, hb⟩

theorem rsize_any (n : Int) (w : World) : Calls Tryd.prog 59 #[.int .i64 n] w fun e w' => e = .returned (.int .i64 (Oct.size n)) ∧ w = w' := by
  unfold Oct.size
  go_enter Tryd.func59, Tryd.ntmps59
  go_wp2
  all_goals go_ret
  all_goals refine ⟨?_, rfl⟩
  all_goals congr 2
  all_goals (repeat' split) <;> omega

/-! ### The library's Index, Clone, Grow -/
theorem idx_idxBy (s : Int) : Lib.idxBy (fun x y => x == y) ([1, 2, 4, 8] : List Int) s = Oct.idx s := by
  unfold Oct.idx
  simp only [Lib.idxBy, Lib.idxByFrom, beq_iff_eq]
  rfl
theorem index_any (s : Int) (g : Nat) (w : World) (h : Blk w g 3 #[.int .i64 1, .int .i64 2, .int .i64 4, .int .i64 8]) :
    Calls Tryd.prog 67 #[.slice (some ⟨g, 0, none⟩) 4 4, .int .i64 s] w fun e w' => e = .returned (.int .i64 (Oct.idx s)) ∧ w' = w := by
  have := Tryd.slices_Index (Value.int .i64) (fun x y => x == y) (EqlAt.int _ _ .i64) g 0 4 4 ([1, 2, 4, 8] : List Int) s w (by decide) (by decide) (fun j hj => by
    rw [Nat.zero_add, h.cell]
    simp at hj
    rcases j with _ | _ | _ | _ | j
    · rfl
    · rfl
    · rfl
    · rfl
    · omega)
  rw [List.take_of_length_le (by decide), idx_idxBy s] at this
  exact this

def renClone : Go.Shelf.Ren := ⟨fun | 41 => 61 | n => n, fun | 22 => 27 | 23 => 5 | 4 => 4 | n => n, fun | n => n⟩
theorem layClone : Go.Proofs.SlLaysE0.n41 Tryd.prog renClone := {
  mixed := by kernel_rfl
  f41 := ⟨Tryd.f61.name, by decide, Tryd.func61.trans (congrArg some (by kernel_rfl))⟩
  t4 := Tryd.underlying4
  a4 := Tryd.isAgg4
  z4 := Tryd.sizeOf4
  v4 := Tryd.zeroValue4
  t22 := Tryd.underlying27
  a22 := Tryd.isAgg27
  z22 := Tryd.sizeOf27
  v22 := Tryd.zeroValue27 }
def renGrow : Go.Shelf.Ren := ⟨fun | 4 => 68 | n => n, fun | 22 => 27 | 25 => 5 | 0 => 0 | 3 => 3 | 4 => 4 | 9 => 9 | 20 => 20 | n => n, fun | n => n⟩
theorem layGrow : Go.Proofs.Lays8.n4 Tryd.prog renGrow := {
  mixed := by kernel_rfl
  f4 := ⟨Tryd.f68.name, by decide, Tryd.func68.trans (congrArg some (by kernel_rfl))⟩
  t0 := Tryd.underlying0
  a0 := Tryd.isAgg0
  z0 := Tryd.sizeOf0
  v0 := Tryd.zeroValue0
  t3 := Tryd.underlying3
  a3 := Tryd.isAgg3
  z3 := Tryd.sizeOf3
  v3 := Tryd.zeroValue3
  t4 := Tryd.underlying4
  a4 := Tryd.isAgg4
  z4 := Tryd.sizeOf4
  v4 := Tryd.zeroValue4
  t9 := Tryd.underlying9
  a9 := Tryd.isAgg9
  z9 := Tryd.sizeOf9
  v9 := Tryd.zeroValue9
  t20 := Tryd.underlying20
  a20 := Tryd.isAgg20
  z20 := Tryd.sizeOf20
  v20 := Tryd.zeroValue20
  t22 := Tryd.underlying27
  a22 := Tryd.isAgg27
  z22 := Tryd.sizeOf27
  v22 := Tryd.zeroValue27 }
end Go.Proofs.YtpagdcobhbkabaaDoor
