/-
  Package ampl: the anti-amplification limit: what each method does, of all numbers, to a limit that is one.
-/
import Derived.Test.YthlpjpcmbpbplaaSatC
namespace Go.Proofs.Ythlpjpcmbpbplaa
open Go.RowKit Go.Sort

namespace Amp
/-- What may be sent; what a call answers; what it leaves. -/
def left (v : Bool) (g s : Int) : Int := if v then 9007199254740991 else Sat.sub (Sat.mul 3 g) s
def ok (n : Int) : Bool := decide (0 ≤ n ∧ n ≤ 65535)
def gotE (n : Int) : Int := if ok n then 0 else 2
def gotG (g n : Int) : Int := if ok n then Sat.add g n else g
def can (v : Bool) (g s n : Int) : Bool := ok n && decide (n ≤ left v g s)
def sentE (v : Bool) (g s n : Int) : Int := if ok n then (if n ≤ left v g s then 0 else 212) else 2
def sentS (v : Bool) (g s n : Int) : Int := if can v g s n then Sat.add s n else s
end Amp

def fv (v : Bool) : FuncId := if v then 31 else 27
def Lim (w : World) (b : Nat) (g s : Int) (v : Bool) : Prop := Blk w b 49 #[.int .i64 g, .int .i64 s, .bool v, .func (.func (fv v)) #[] #[]]
def RLim (w : World) (b : Nat) (g s : Int) (v : Bool) : Prop := Blk w b 51 #[.int .i64 g, .int .i64 s, .bool v]

theorem fn_nil (f : FuncId) (w : World) : (binOp .eql 47 (.func (.func f) #[] #[]) .nilFunc).run Try.prog w = .ok (.bool false) w := by kernel_rfl

theorem asize_same (n : Int) (w : World) :
    Calls Try.prog 29 #[.int .i64 n] w fun e w' => e = .returned (.bool (Amp.ok n)) ∧ w = w' := by
  by_cases h : 0 ≤ n
  · go_enter Try.func29, Try.ntmps29
    go_wp2
    go_ret
    exact ⟨rb (by simp [Amp.ok, h]), rfl⟩
  · go_enter Try.func29, Try.ntmps29
    go_wp2
    go_ret
    exact ⟨rb (by simp [Amp.ok]; omega), rfl⟩

theorem none_same (b : Nat) (f : FuncId) (w : World) (c3 : w.cell? ⟨b, 3, none⟩ = some (.func (.func f) #[] #[])) :
    Calls Try.prog 28 #[.pointer (some ⟨b, 0, none⟩)] w fun e w' => e = .returned (.bool false) ∧ w = w' := by
  have hq := fn_nil f
  go_enter Try.func28, Try.ntmps28
  go_wp2
  go_ret
  exact ⟨rfl, rfl⟩

theorem left_fn (b : Nat) (g s : Int) (v : Bool) (w : World) (h : Lim w b g s v) :
    Calls Try.prog (fv v) #[.pointer (some ⟨b, 0, none⟩)] w fun e w' => e = .returned (.int .i64 (Amp.left v g s)) ∧ Below w.heap.size w w' := by
  have c0 := h.cell 0
  have c1 := h.cell 1
  simp at c0 c1
  cases v
  · show Calls Try.prog 27 _ _ _
    have e : Amp.left false g s = Sat.sub (Sat.mul 3 g) s := rfl
    rw [e]
    clear h e
    go_enter Try.func27, Try.ntmps27
    go_wp2_with fail
    have d0 := fun d os => cell_regrown c0 d os
    have d1 := fun d os => cell_regrown c1 d os
    clear c0 c1
    refine wp_region_quiet_below (by kernel_rfl) (by kernel_rfl) ?_
    repeat (go_big_quiet_step ((first | (go_at_call 36; with_reducible exact Calls.regrown_of (mul_any _ _ _)) | (go_at_call 35; with_reducible exact Calls.regrown_of (sub_any _ _ _)))))
    refine wpQuiet_nil ?_
    intro wq hw'
    obtain ⟨⟨dq, osq⟩, hw''⟩ := hw'
    have hbq := regrown_below hw''
    clear hw'' dq osq
    clear d0 d1
    go_wp2
    go_ret
    exact ⟨rfl, hbq⟩
  · show Calls Try.prog 31 _ _ _
    go_enter Try.func31, Try.ntmps31
    go_wp2
    go_ret
    exact ⟨rfl, Below.refl _ _⟩

theorem validate_any (b : Nat) (g s : Int) (v : Bool) (w : World) (h : Lim w b g s v) :
    Calls Try.prog 19 #[.pointer (some ⟨b, 0, none⟩)] w fun e w' => e = .returned (.int .i64 0) ∧ Lim w' b g s true ∧ w.grownBy w' (some b) := by
  have c2 := h.cell 2
  have c3 := h.cell 3
  have z2 := h.frozen 2
  have z3 := h.frozen 3
  simp at c2 c3
  have H := Lib.hid h
  clear h
  go_enter Try.func19, Try.ntmps19
  go_wp2_with (go_at_call 28; (with_reducible refine (none_same _ _ _ c3).mono ?_); rintro e w1 ⟨rfl, rfl⟩)
  go_ret
  exact ⟨rfl, (H.out.set_ 2 _).set_ 3 _, one_set (one_set (one_refl _ _) _ _) _ _⟩

theorem new_any (v : Bool) (w : World) :
    Calls Try.prog 10 #[.bool v] w fun e w' => e = .returned (.pointer (some ⟨w.heap.size, 0, none⟩)) ∧ Lim w' w.heap.size 0 0 v ∧ Below w.heap.size w w' := by
  cases v
  · go_enter Try.func10, Try.ntmps10
    go_wp2
    go_ret
    exact ⟨rfl, Blk.new _ _ _, (by repeat (first | with_reducible assumption | with_reducible exact Below.refl _ _ | with_reducible exact later ‹_› ‹_› | refine later ?_ (by with_reducible assumption) | refine laterA ?_ _ | refine laterDN ?_ _ | refine laterD ?_ | refine laterR ?_ _ _))⟩
  · go_enter Try.func10, Try.ntmps10
    go_wp2_with fail
    refine (validate_any _ 0 0 false _ (Blk.new _ _ _)).mono ?_
    rintro e w1 ⟨rfl, hl, ho⟩
    go_wp2
    go_ret
    exact ⟨rfl, hl, (laterA (Below.refl _ _) _).trans (one_below ho (Nat.le_refl _) (by simp))⟩

theorem got_any (b : Nat) (g s n : Int) (v : Bool) (w : World) (h : Lim w b g s v) :
    Calls Try.prog 12 #[.pointer (some ⟨b, 0, none⟩), .int .i64 n] w fun e w' => e = .returned (.int .i64 (Amp.gotE n)) ∧ Lim w' b (Amp.gotG g n) s v ∧ w.grownBy w' (some b) := by
  have c0 := h.cell 0
  have c3 := h.cell 3
  have z0 := h.frozen 0
  simp at c0 c3
  have H := Lib.hid h
  clear h
  cases hk : Amp.ok n
  · have e1 : Amp.gotE n = 2 := by unfold Amp.gotE; rw [hk]; rfl
    have e2 : Amp.gotG g n = g := by unfold Amp.gotG; rw [hk]; rfl
    rw [e1, e2]
    clear e1 e2
    go_enter Try.func12, Try.ntmps12
    go_wp2_with (first | (go_at_call 28; (with_reducible refine (none_same _ _ _ c3).mono ?_); rintro e w1 ⟨rfl, rfl⟩) | (go_at_call 29; (with_reducible refine (asize_same _ _).mono ?_); rintro e w1 ⟨rfl, rfl⟩) | (go_at_call 30; (with_reducible refine (add_same _ _ _).mono ?_); rintro e w1 ⟨rfl, rfl⟩))
    go_ret
    exact ⟨rfl, H.out, one_refl _ _⟩
  · have e1 : Amp.gotE n = 0 := by unfold Amp.gotE; rw [hk]; rfl
    have e2 : Amp.gotG g n = Sat.add g n := by unfold Amp.gotG; rw [hk]; rfl
    rw [e1, e2]
    clear e1 e2
    go_enter Try.func12, Try.ntmps12
    go_wp2_with (first | (go_at_call 28; (with_reducible refine (none_same _ _ _ c3).mono ?_); rintro e w1 ⟨rfl, rfl⟩) | (go_at_call 29; (with_reducible refine (asize_same _ _).mono ?_); rintro e w1 ⟨rfl, rfl⟩) | (go_at_call 30; (with_reducible refine (add_same _ _ _).mono ?_); rintro e w1 ⟨rfl, rfl⟩))
    go_ret
    exact ⟨rfl, H.out.set_ 0 _, one_set (one_refl _ _) _ _⟩

end Go.Proofs.Ythlpjpcmbpbplaa
