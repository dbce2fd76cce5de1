/-
  Layer 13: buckets that are none (the nil pointer, the zero bucket).
-/
import Derived.Test.YtniiemmgcjkphaaBktH
namespace Go.Proofs.Ytniiemmgcjkphaa
open Go.RowKit Go.Sort

/-- p is no bucket, now and later. -/
def NoB (w : World) (p : Option Addr) : Prop := ∀ w1, Below w.heap.size w w1 → Calls Try.prog 50 #[.pointer p] w1 fun e w' => e = .returned (.bool true) ∧ w1 = w'
theorem NoB.later {w w' : World} {p : Option Addr} (h : NoB w p) (hb : Below w.heap.size w w') : NoB w' p := fun w1 h1 => h w1 (Go.Proofs.Ytniiemmgcjkphaa.later hb h1)

theorem nob_nil (w : World) : NoB w none := by
  intro w1 _
  go_enter Try.func50, Try.ntmps50
  go_wp2
  go_ret
  exact ⟨rfl, rfl⟩

theorem nob_zero (b : Nat) (w : World) (h : Bk w b ⟨0, 0, 0, 0, 0, 0⟩) : NoB w (some ⟨b, 0, none⟩) := by
  intro w1 h1
  have c0 := (Blk.later h h1).cell 0
  simp [cellsB] at c0
  clear h h1
  go_enter Try.func50, Try.ntmps50
  go_wp2
  go_ret
  exact ⟨rfl, rfl⟩

theorem nfill_b (p : Option Addr) (num den : Int) (k : Int) (w : World) (h : NoB w p) :
    Calls Try.prog 19 #[.pointer p, .int .i64 k, .agg #[.int .i64 num, .int .i64 den]] w fun e w' => e = .returned (.int .i64 1) ∧ Below w.heap.size w w' := by
  have hb := laterA (Below.refl w.heap.size w) (.cells #[.int .i64 num, .int .i64 den] 25)
  have H := h _ hb
  replace H := Lib.hid H
  replace hb := Lib.hid hb
  clear h
  go_enter Try.func19, Try.ntmps19
  go_wp2_with fail
  refine Calls.mono H.out ?_
  rintro e w1 ⟨rfl, rfl⟩
  go_wp2
  go_ret
  exact ⟨rfl, hb.out⟩

theorem ntake_b (p : Option Addr) (k : Int) (w : World) (h : NoB w p) :
    Calls Try.prog 18 #[.pointer p, .int .i64 k] w fun e w' => e = .returned (.int .i64 1) ∧ Below w.heap.size w w' := by
  have H := h _ (Below.refl _ _)
  replace H := Lib.hid H
  clear h
  go_enter Try.func18, Try.ntmps18
  go_wp2_with fail
  refine Calls.mono H.out ?_
  rintro e w1 ⟨rfl, rfl⟩
  go_wp2
  go_ret
  exact ⟨rfl, Below.refl _ _⟩

theorem nwhen_b (p : Option Addr) (num den : Int) (k : Int) (w : World) (h : NoB w p) :
    Calls Try.prog 26 #[.pointer p, .int .i64 k, .agg #[.int .i64 num, .int .i64 den]] w fun e w' => e = .returned (.int .i64 (-1)) ∧ Below w.heap.size w w' := by
  have hb := laterA (Below.refl w.heap.size w) (.cells #[.int .i64 num, .int .i64 den] 25)
  have H := h _ hb
  replace H := Lib.hid H
  replace hb := Lib.hid hb
  clear h
  go_enter Try.func26, Try.ntmps26
  go_wp2_with fail
  refine Calls.mono H.out ?_
  rintro e w1 ⟨rfl, rfl⟩
  go_wp2
  go_ret
  exact ⟨rfl, hb.out⟩

theorem ntokens_b (p : Option Addr) (w : World) (h : NoB w p) :
    Calls Try.prog 20 #[.pointer p] w fun e w' => e = .returned (.int .i64 0) ∧ Below w.heap.size w w' := by
  have H := h _ (Below.refl _ _)
  replace H := Lib.hid H
  clear h
  go_enter Try.func20, Try.ntmps20
  go_wp2_with fail
  refine Calls.mono H.out ?_
  rintro e w1 ⟨rfl, rfl⟩
  go_wp2
  go_ret
  exact ⟨rfl, Below.refl _ _⟩

theorem nrest_b (p : Option Addr) (w : World) (h : NoB w p) :
    Calls Try.prog 21 #[.pointer p] w fun e w' => e = .returned (.int .i64 0) ∧ Below w.heap.size w w' := by
  have H := h _ (Below.refl _ _)
  replace H := Lib.hid H
  clear h
  go_enter Try.func21, Try.ntmps21
  go_wp2_with fail
  refine Calls.mono H.out ?_
  rintro e w1 ⟨rfl, rfl⟩
  go_wp2
  go_ret
  exact ⟨rfl, Below.refl _ _⟩

theorem ntime_b (p : Option Addr) (w : World) (h : NoB w p) :
    Calls Try.prog 31 #[.pointer p] w fun e w' => e = .returned (.int .i64 0) ∧ Below w.heap.size w w' := by
  have H := h _ (Below.refl _ _)
  replace H := Lib.hid H
  clear h
  go_enter Try.func31, Try.ntmps31
  go_wp2_with fail
  refine Calls.mono H.out ?_
  rintro e w1 ⟨rfl, rfl⟩
  go_wp2
  go_ret
  exact ⟨rfl, Below.refl _ _⟩

theorem ncopy_b (p : Option Addr) (w : World) (h : NoB w p) :
    Calls Try.prog 29 #[.pointer p] w fun e w' => e = .returned (.pointer none) ∧ Below w.heap.size w w' := by
  have H := h _ (Below.refl _ _)
  replace H := Lib.hid H
  clear h
  go_enter Try.func29, Try.ntmps29
  go_wp2_with fail
  refine Calls.mono H.out ?_
  rintro e w1 ⟨rfl, rfl⟩
  go_wp2
  go_ret
  exact ⟨rfl, Below.refl _ _⟩

end Go.Proofs.Ytniiemmgcjkphaa
