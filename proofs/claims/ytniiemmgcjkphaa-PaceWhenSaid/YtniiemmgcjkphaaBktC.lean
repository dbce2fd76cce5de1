/-
  Package bucket: New, Take, Tokens, Rest, Time, Copy; and the document's bucket (sounderref13).
-/
import Derived.Test.YtniiemmgcjkphaaBktB
namespace Go.Proofs.Ytniiemmgcjkphaa
open Go.RowKit Go.Sort

namespace Bkt
def newOk (B t : Int) : Bool := decide (1 ≤ B ∧ B ≤ 1073741824) && Sat.isN t
def start (B t : Int) : St := ⟨B, B, 0, t, 0, 0⟩
theorem wf_start {B t : Int} (h : newOk B t = true) : wf (start B t) := by
  unfold newOk at h
  rw [Bool.and_eq_true, decide_eq_true_eq, Sat.isN_iff] at h
  obtain ⟨⟨a, b⟩, c, d⟩ := h
  exact ⟨a, b, by simp only [start]; omega, by simp only [start]; omega, by simp [start], .inl rfl, c, d⟩
end Bkt

theorem bnew_ok (B t : Int) (w : World) (h : Bkt.newOk B t = true) :
    Calls Try.prog 17 #[.int .i64 B, .int .i64 t] w fun e w' => e = .returned (.tuple #[.pointer (some ⟨w.heap.size, 0, none⟩), .int .i64 0]) ∧ Bk w' w.heap.size (Bkt.start B t) ∧ Below w.heap.size w w' := by
  unfold Bkt.newOk at h
  obtain ⟨h1, k⟩ := Bool.and_eq_true_iff.1 h
  rw [decide_eq_true_eq] at h1
  obtain ⟨b0, b1⟩ := h1
  clear h
  go_enter Try.func17, Try.ntmps17
  go_wp2_with (first | (go_at_call 49; (with_reducible refine (is_same _ _).mono ?_); rintro e w1 ⟨rfl, rfl⟩))
  go_ret2
  exact ⟨rfl, Blk.new _ _ _, (by repeat (first | with_reducible assumption | with_reducible exact Below.refl _ _ | with_reducible exact later ‹_› ‹_› | refine later ?_ (by with_reducible assumption) | refine laterA ?_ _ | refine laterDN ?_ _ | refine laterD ?_ | refine laterR ?_ _ _))⟩

theorem bnew_no (B t : Int) (w : World) (h : Bkt.newOk B t = false) :
    Calls Try.prog 17 #[.int .i64 B, .int .i64 t] w fun e w' => e = .returned (.tuple #[.pointer none, .int .i64 2]) ∧ Below w.heap.size w w' := by
  unfold Bkt.newOk at h
  by_cases b0 : 1 ≤ B
  · by_cases b1 : B ≤ 1073741824
    · have k : Sat.isN t = false := by simpa [b0, b1] using h
      clear h
      go_enter Try.func17, Try.ntmps17
      go_wp2_with (first | (go_at_call 49; (with_reducible refine (is_same _ _).mono ?_); rintro e w1 ⟨rfl, rfl⟩))
      go_ret2
      exact ⟨rfl, (by repeat (first | with_reducible assumption | with_reducible exact Below.refl _ _ | with_reducible exact later ‹_› ‹_› | refine later ?_ (by with_reducible assumption) | refine laterA ?_ _ | refine laterDN ?_ _ | refine laterD ?_ | refine laterR ?_ _ _))⟩
    · clear h
      go_enter Try.func17, Try.ntmps17
      go_wp2
      go_ret2
      exact ⟨rfl, (by repeat (first | with_reducible assumption | with_reducible exact Below.refl _ _ | with_reducible exact later ‹_› ‹_› | refine later ?_ (by with_reducible assumption) | refine laterA ?_ _ | refine laterDN ?_ _ | refine laterD ?_ | refine laterR ?_ _ _))⟩
  · clear h
    go_enter Try.func17, Try.ntmps17
    go_wp2
    go_ret2
    exact ⟨rfl, (by repeat (first | with_reducible assumption | with_reducible exact Below.refl _ _ | with_reducible exact later ‹_› ‹_› | refine later ?_ (by with_reducible assumption) | refine laterA ?_ _ | refine laterDN ?_ _ | refine laterD ?_ | refine laterR ?_ _ _))⟩

theorem take_any (b : Nat) (s : Bkt.St) (k : Int) (w : World) (h : Bk w b s) (hw : Bkt.wf s) :
    Calls Try.prog 18 #[.pointer (some ⟨b, 0, none⟩), .int .i64 k] w fun e w' => e = .returned (.int .i64 (Bkt.takeE s k)) ∧ Bk w' b (Bkt.takeS s k) ∧ w.grownBy w' (some b) := by
  have c0 := h.cell 0
  have c1 := h.cell 1
  have z1 := h.frozen 1
  simp [cellsB] at c0 c1
  have H := Lib.hid h
  clear h
  have hB : (s.B == 0) = false := by have := hw.B0; simp; omega
  have n0 := hw.n0
  have n1 := hw.n1
  have n2 := hw.B1
  have e0 : Bkt.takeE s k = if k < 0 then 2 else if s.n < k then 5 else 0 := rfl
  by_cases h0 : k < 0
  · rw [if_pos h0] at e0
    have e1 : Bkt.takeS s k = s := by simp [Bkt.takeS, e0]
    rw [e0, e1]
    clear e0 e1
    go_enter Try.func18, Try.ntmps18
    go_wp2_with (first | (go_at_call 50; (with_reducible refine (bnone_same _ _ _ c0 hB).mono ?_); rintro e w1 ⟨rfl, rfl⟩))
    go_ret
    exact ⟨rfl, H.out, one_refl _ _⟩
  · rw [if_neg h0] at e0
    by_cases h1 : s.n < k
    · rw [if_pos h1] at e0
      have e1 : Bkt.takeS s k = s := by simp [Bkt.takeS, e0]
      rw [e0, e1]
      clear e0 e1
      go_enter Try.func18, Try.ntmps18
      go_wp2_with (first | (go_at_call 50; (with_reducible refine (bnone_same _ _ _ c0 hB).mono ?_); rintro e w1 ⟨rfl, rfl⟩))
      go_ret
      exact ⟨rfl, H.out, one_refl _ _⟩
    · rw [if_neg h1] at e0
      have e1 : Bkt.takeS s k = { s with n := s.n - k } := by simp [Bkt.takeS, e0]
      rw [e0, e1]
      clear e0 e1
      go_enter Try.func18, Try.ntmps18
      go_wp2_with (first | (go_at_call 50; (with_reducible refine (bnone_same _ _ _ c0 hB).mono ?_); rintro e w1 ⟨rfl, rfl⟩))
      go_ret
      exact ⟨rfl, Blk.set_ H.out 1 _, one_set (one_refl _ _) _ _⟩

theorem tokens_any (b : Nat) (s : Bkt.St) (w : World) (h : Bk w b s) (hw : Bkt.wf s) :
    Calls Try.prog 20 #[.pointer (some ⟨b, 0, none⟩)] w fun e w' => e = .returned (.int .i64 s.n) ∧ w = w' := by
  have c0 := h.cell 0
  have c1 := h.cell 1
  simp [cellsB] at c0 c1
  have hB : (s.B == 0) = false := by have := hw.B0; simp; omega
  clear h
  go_enter Try.func20, Try.ntmps20
  go_wp2_with (first | (go_at_call 50; (with_reducible refine (bnone_same _ _ _ c0 hB).mono ?_); rintro e w1 ⟨rfl, rfl⟩))
  go_ret
  exact ⟨rfl, rfl⟩

theorem rest_any (b : Nat) (s : Bkt.St) (w : World) (h : Bk w b s) (hw : Bkt.wf s) :
    Calls Try.prog 21 #[.pointer (some ⟨b, 0, none⟩)] w fun e w' => e = .returned (.int .i64 s.r) ∧ w = w' := by
  have c0 := h.cell 0
  have c1 := h.cell 2
  simp [cellsB] at c0 c1
  have hB : (s.B == 0) = false := by have := hw.B0; simp; omega
  clear h
  go_enter Try.func21, Try.ntmps21
  go_wp2_with (first | (go_at_call 50; (with_reducible refine (bnone_same _ _ _ c0 hB).mono ?_); rintro e w1 ⟨rfl, rfl⟩))
  go_ret
  exact ⟨rfl, rfl⟩

theorem time_at (b : Nat) (s : Bkt.St) (w : World) (h : Bk w b s) (hw : Bkt.wf s) :
    Calls Try.prog 31 #[.pointer (some ⟨b, 0, none⟩)] w fun e w' => e = .returned (.int .i64 s.t) ∧ w = w' := by
  have c0 := h.cell 0
  have c1 := h.cell 3
  simp [cellsB] at c0 c1
  have hB : (s.B == 0) = false := by have := hw.B0; simp; omega
  clear h
  go_enter Try.func31, Try.ntmps31
  go_wp2_with (first | (go_at_call 50; (with_reducible refine (bnone_same _ _ _ c0 hB).mono ?_); rintro e w1 ⟨rfl, rfl⟩))
  go_ret
  exact ⟨rfl, rfl⟩

theorem bcopy_any (b : Nat) (s : Bkt.St) (w : World) (h : Bk w b s) (hw : Bkt.wf s) :
    Calls Try.prog 29 #[.pointer (some ⟨b, 0, none⟩)] w fun e w' => e = .returned (.pointer (some ⟨w.heap.size, 0, none⟩)) ∧ Bk w' w.heap.size s ∧ Below w.heap.size w w' := by
  have c0 := h.cell 0
  have c1 := h.cell 1
  have c2 := h.cell 2
  have c3 := h.cell 3
  have c4 := h.cell 4
  have c5 := h.cell 5
  simp [cellsB] at c0 c1 c2 c3 c4 c5
  have hB : (s.B == 0) = false := by have := hw.B0; simp; omega
  clear h
  go_enter Try.func29, Try.ntmps29
  go_wp2_with (first | (go_at_call 50; (with_reducible refine (bnone_same _ _ _ c0 hB).mono ?_); rintro e w1 ⟨rfl, rfl⟩))
  go_ret
  exact ⟨rfl, Blk.new _ _ _, (by repeat (first | with_reducible assumption | with_reducible exact Below.refl _ _ | with_reducible exact later ‹_› ‹_› | refine later ?_ (by with_reducible assumption) | refine laterA ?_ _ | refine laterDN ?_ _ | refine laterD ?_ | refine laterR ?_ _ _))⟩

end Go.Proofs.Ytniiemmgcjkphaa
