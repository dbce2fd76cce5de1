/-
  Package bucket: what each method does.
-/
import Derived.Test.YtniiemmgcjkphaaSatC
import Derived.Test.YtniiemmgcjkphaaBkt
namespace Go.Proofs.Ytniiemmgcjkphaa
open Go.RowKit Go.Sort

def cellsB (s : Bkt.St) : Array Value := #[.int .i64 s.B, .int .i64 s.n, .int .i64 s.r, .int .i64 s.t, .int .i64 s.num, .int .i64 s.den]
def Bk (w : World) (b : Nat) (s : Bkt.St) : Prop := Blk w b 60 (cellsB s)
def RBk (w : World) (b : Nat) (s : Bkt.St) : Prop := Blk w b 101 (cellsB s)

theorem may_any (num den : Int) (w : World) :
    Calls Try.prog 51 #[.agg #[.int .i64 num, .int .i64 den]] w fun e w' => e = .returned (.bool (Bkt.may num den)) ∧ Below w.heap.size w w' := by
  by_cases h1 : 0 ≤ num
  · by_cases h2 : num ≤ 8796093022208
    · by_cases h3 : 1 ≤ den
      · go_enter Try.func51, Try.ntmps51
        go_wp2
        go_ret
        exact ⟨rb (by simp [Bkt.may, h1, h2, h3]), (by repeat (first | with_reducible assumption | with_reducible exact Below.refl _ _ | with_reducible exact later ‹_› ‹_› | refine later ?_ (by with_reducible assumption) | refine laterA ?_ _ | refine laterDN ?_ _ | refine laterD ?_ | refine laterR ?_ _ _))⟩
      · have e : Bkt.may num den = false := by simp [Bkt.may, h3]
        rw [e]
        go_enter Try.func51, Try.ntmps51
        go_wp2
        go_ret
        exact ⟨rfl, (by repeat (first | with_reducible assumption | with_reducible exact Below.refl _ _ | with_reducible exact later ‹_› ‹_› | refine later ?_ (by with_reducible assumption) | refine laterA ?_ _ | refine laterDN ?_ _ | refine laterD ?_ | refine laterR ?_ _ _))⟩
    · have e : Bkt.may num den = false := by simp [Bkt.may, h2]
      rw [e]
      go_enter Try.func51, Try.ntmps51
      go_wp2
      go_ret
      exact ⟨rfl, (by repeat (first | with_reducible assumption | with_reducible exact Below.refl _ _ | with_reducible exact later ‹_› ‹_› | refine later ?_ (by with_reducible assumption) | refine laterA ?_ _ | refine laterDN ?_ _ | refine laterD ?_ | refine laterR ?_ _ _))⟩
  · have e : Bkt.may num den = false := by simp [Bkt.may, h1]
    rw [e]
    go_enter Try.func51, Try.ntmps51
    go_wp2
    go_ret
    exact ⟨rfl, (by repeat (first | with_reducible assumption | with_reducible exact Below.refl _ _ | with_reducible exact later ‹_› ‹_› | refine later ?_ (by with_reducible assumption) | refine laterA ?_ _ | refine laterDN ?_ _ | refine laterD ?_ | refine laterR ?_ _ _))⟩

theorem eq_rate (x0 x1 y0 y1 : Int) (d : Nat) (w : World) : (Op.equalIn (d + 2) 25 (.agg #[.int .i64 x0, .int .i64 x1]) (.agg #[.int .i64 y0, .int .i64 y1])).run Try.prog w = .ok (x0 == y0 && x1 == y1) w := by
  have e3 : ∀ (a b : Int) (w : World), (Op.equalIn (d + 1) 3 (.int .i64 a) (.int .i64 b)).run Try.prog w = .ok (a == b) w := fun a b w => run_equalIn_int w d 3 .i64 .i64 a b Try.underlying3
  have hs : ∀ w, (sizeOf 3).run Try.prog w = .ok 1 w := Try.sizeOf3
  have ha : ∀ w, (isAgg 3).run Try.prog w = .ok false w := Try.isAgg3
  rw [Op.equalIn]
  simp only [Sem.run_bind, run_underlying Try.underlying25, Result.andThen_ok]
  simp [go_sem, hs, e3, ha]
  cases h0 : (x0 == y0) <;> cases h1 : (x1 == y1) <;> simp_all

theorem turn_any (b : Nat) (s : Bkt.St) (t num den : Int) (w : World) (h : Bk w b s) :
    Calls Try.prog 52 #[.pointer (some ⟨b, 0, none⟩), .int .i64 t, .agg #[.int .i64 num, .int .i64 den]] w fun e w' => e = .returned (.tuple #[]) ∧ Bk w' b { s with r := Bkt.kept s num den, num := num, den := den } ∧ w.grownBy w' (some b) := by
  have hb1 := laterA (Below.refl w.heap.size w) (.cells #[.int .i64 num, .int .i64 den] 25)
  have hR := Blk.new w 25 #[.int .i64 num, .int .i64 den]
  have h1 := Blk.later h hb1
  have n1 : w.heap.size ≠ b := by have := Blk.lt h; omega
  have ho := one_later (one_refl w b) hb1
  clear h
  generalize hw0 : w.alloc _ = W at *
  generalize hD : w.heap.size = D at *
  have c2 := h1.cell 2
  have c4 := h1.cell 4
  have c5 := h1.cell 5
  have z2 := h1.frozen 2
  have z4 := h1.frozen 4
  have z5 := h1.frozen 5
  have r0 := hR.cell 0
  have r1 := hR.cell 1
  simp [cellsB] at c2 c4 c5 r0 r1
  have h1 := Lib.hid h1
  have hR := Lib.hid hR
  have ho := Lib.hid ho
  clear hb1
  by_cases hk : num = s.num ∧ den = s.den
  · obtain ⟨rfl, rfl⟩ := hk
    have e : Bkt.kept s s.num s.den = s.r := by simp [Bkt.kept]
    rw [e]
    go_enter Try.func52, Try.ntmps52
    go_wp2_with fail
    go_quiet (fail)
    go_wp2
    go_end0
    exact ⟨rfl, Blk.drewN h1.out _, one_drewN ho.out _⟩
  · have e : Bkt.kept s num den = 0 := by simp [Bkt.kept, hk]
    have q1 : (num == s.num && den == s.den) = false := by simpa using hk
    have q2 := eq_rate num den s.num s.den
    rw [e]
    clear e hk
    go_enter Try.func52, Try.ntmps52
    go_wp2_with fail
    go_quiet (fail)
    go_wp2
    go_end0
    exact ⟨rfl, (((Blk.drewN h1.out _).set_ 4 _).set_ 5 _).set_ 2 _, one_set (one_set (one_set (one_drewN ho.out _) _ _) _ _) _ _⟩

theorem bnone_same (b : Nat) (B : Int) (w : World) (h : w.cell? ⟨b, 0, none⟩ = some (.int .i64 B)) (hB : (B == 0) = false) :
    Calls Try.prog 50 #[.pointer (some ⟨b, 0, none⟩)] w fun e w' => e = .returned (.bool false) ∧ w = w' := by
  go_enter Try.func50, Try.ntmps50
  go_wp2
  go_ret
  exact ⟨rfl, rfl⟩


theorem full_any (b : Nat) (s : Bkt.St) (t num den : Int) (w : World) (h : Bk w b s) :
    Calls Try.prog 54 #[.pointer (some ⟨b, 0, none⟩), .int .i64 t, .agg #[.int .i64 num, .int .i64 den]] w fun e w' => e = .returned (.tuple #[]) ∧ Bk w' b (if s.B ≤ s.n then { s with n := s.B, r := 0 } else s) ∧ w.grownBy w' (some b) := by
  have hb1 := laterA (Below.refl w.heap.size w) (.cells #[.int .i64 num, .int .i64 den] 25)
  have h1 := Blk.later h hb1
  have ho := one_later (one_refl w b) hb1
  clear h hb1
  generalize hw0 : w.alloc _ = W at *
  generalize hD : w.heap.size = D at *
  have c0 := h1.cell 0
  have c1 := h1.cell 1
  have c2 := h1.cell 2
  have z1 := h1.frozen 1
  have z2 := h1.frozen 2
  simp [cellsB] at c0 c1 c2
  have h1 := Lib.hid h1
  have ho := Lib.hid ho
  by_cases hk : s.B ≤ s.n
  · rw [if_pos hk]
    go_enter Try.func54, Try.ntmps54
    go_wp2_with fail
    go_quiet (fail)
    go_wp2
    go_end0
    exact ⟨rfl, ((Blk.drewN h1.out _).set_ 1 _).set_ 2 _, one_set (one_set (one_drewN ho.out _) _ _) _ _⟩
  · rw [if_neg hk]
    go_enter Try.func54, Try.ntmps54
    go_wp2_with fail
    go_quiet (fail)
    go_wp2
    go_end0
    exact ⟨rfl, Blk.drewN h1.out _, one_drewN ho.out _⟩

theorem pass_any (b : Nat) (s : Bkt.St) (t num den q r : Int) (w : World) (h : Bk w b s) (t0 : 0 ≤ s.t) (ht : s.t ≤ t) (t1 : t ≤ 9007199254740991) (r0 : 0 ≤ s.r) (r1 : s.r ≤ 9007199254740991) (d0 : 1 ≤ den) (d1 : den ≤ 9007199254740991)
    (hq : Sat.quo (t - s.t) num den = q) (hr : Sat.rest (t - s.t) num den = r) (x0 : 0 ≤ r) (x1 : r < den) (Q R : Int)
    (hQ : (if den ≤ r + s.r then Sat.add q 1 else q) = Q) (hR : (if den ≤ r + s.r then r + s.r - den else r + s.r) = R) :
    Calls Try.prog 53 #[.pointer (some ⟨b, 0, none⟩), .int .i64 t, .agg #[.int .i64 num, .int .i64 den]] w fun e w' => e = .returned (.tuple #[]) ∧ Bk w' b { s with n := Sat.add s.n Q, r := R, t := t } ∧ w.grownBy w' (some b) := by
  have hb1 := laterA (Below.refl w.heap.size w) (.cells #[.int .i64 num, .int .i64 den] 25)
  have hB := Blk.new w 25 #[.int .i64 num, .int .i64 den]
  have h1 := Blk.later h hb1
  have n1 : w.heap.size ≠ b := by have := Blk.lt h; omega
  have ho := one_later (one_refl w b) hb1
  clear h
  generalize hw0 : w.alloc _ = W at *
  generalize hD : w.heap.size = D at *
  have c2 := h1.cell 2
  have c3 := h1.cell 3
  have v0 := hB.cell 0
  have v1 := hB.cell 1
  simp [cellsB] at c2 c3 v0 v1
  have h1 := Lib.hid h1
  have hB := Lib.hid hB
  have ho := Lib.hid ho
  have hM := Lib.hid (mulrest_any (t - s.t) num den)
  rw [hq, hr] at hM
  clear hb1
  have d2 := fun d os => cell_regrown c2 d os
  have d3 := fun d os => cell_regrown c3 d os
  have e0 := fun d os => cell_regrown v0 d os
  have e1 := fun d os => cell_regrown v1 d os
  clear c2 c3 v0 v1
  by_cases hk : den ≤ r + s.r
  · rw [if_pos hk] at hQ hR
    go_enter Try.func53, Try.ntmps53
    go_wp2_with fail
    refine wp_region_quiet_below (by kernel_rfl) (by kernel_rfl) ?_
    repeat (go_big_quiet_step ((first | (go_at_call 77; with_reducible exact Calls.regrown_of (hM.out _)))))
    refine wpQuiet_nil ?_
    intro wq hw'
    obtain ⟨⟨dq, osq⟩, hw''⟩ := hw'
    have hbq := regrown_below hw''
    clear hw'' dq osq
    clear d2 d3 e0 e1
    have h2 := Lib.hid (Blk.later h1.out hbq)
    have hB2 := Lib.hid (Blk.later hB.out hbq)
    have ho2 := Lib.hid (one_later ho.out hbq)
    have c2 := h2.out.cell 2
    have v1 := hB2.out.cell 1
    simp [cellsB] at c2 v1
    clear hbq
    go_wp2_with fail
    have e1 := fun d os => cell_regrown v1 d os
    clear v1
    obtain ⟨wp, rfl⟩ : ∃ wp : World, wp = wq := ⟨_, rfl⟩
    refine wp_region_quiet_below (by kernel_rfl) (by kernel_rfl) ?_
    repeat (go_big_quiet_step ((first | (go_at_call 78; with_reducible exact Calls.regrown_of (add_any _ _ _)))))
    refine wpQuiet_nil ?_
    intro wq hw'
    obtain ⟨⟨dq, osq⟩, hw''⟩ := hw'
    have hbq := regrown_below hw''
    clear hw'' dq osq
    clear e1 c2
    have h3 := Lib.hid (Blk.later h2.out hbq)
    have ho3 := Lib.hid (one_later ho2.out hbq)
    have c1 := h3.out.cell 1
    have c2 := h3.out.cell 2
    have c3 := h3.out.cell 3
    have z1 := h3.out.frozen 1
    have z2 := h3.out.frozen 2
    have z3 := h3.out.frozen 3
    simp [cellsB] at c1 c2 c3
    clear hbq
    go_wp2_with (first | (go_at_call 78; (with_reducible refine (add_same _ _ _).mono ?_); rintro e w1 ⟨rfl, rfl⟩))
    go_end0
    exact ⟨rfl, ((Blk.set_ h3.out 1 _).set_ 2 _).set_ 3 _, one_set (one_set (one_set ho3.out _ _) _ _) _ _⟩
  · rw [if_neg hk] at hQ hR
    subst hQ
    go_enter Try.func53, Try.ntmps53
    go_wp2_with fail
    refine wp_region_quiet_below (by kernel_rfl) (by kernel_rfl) ?_
    repeat (go_big_quiet_step ((first | (go_at_call 77; with_reducible exact Calls.regrown_of (hM.out _)))))
    refine wpQuiet_nil ?_
    intro wq hw'
    obtain ⟨⟨dq, osq⟩, hw''⟩ := hw'
    have hbq := regrown_below hw''
    clear hw'' dq osq
    clear d2 d3 e0 e1
    have h3 := Lib.hid (Blk.later h1.out hbq)
    have hB2 := Lib.hid (Blk.later hB.out hbq)
    have ho3 := Lib.hid (one_later ho.out hbq)
    have c1 := h3.out.cell 1
    have c2 := h3.out.cell 2
    have c3 := h3.out.cell 3
    have z1 := h3.out.frozen 1
    have z2 := h3.out.frozen 2
    have z3 := h3.out.frozen 3
    have v1 := hB2.out.cell 1
    simp [cellsB] at c1 c2 c3 v1
    clear hbq
    go_wp2_with (first | (go_at_call 78; (with_reducible refine (add_same _ _ _).mono ?_); rintro e w1 ⟨rfl, rfl⟩))
    go_end0
    exact ⟨rfl, ((Blk.set_ h3.out 1 _).set_ 2 _).set_ 3 _, one_set (one_set (one_set ho3.out _ _) _ _) _ _⟩

end Go.Proofs.Ytniiemmgcjkphaa
