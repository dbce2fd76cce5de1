/-
  Layer 2: the program's reader: NewReader, Left, Err, End, Take.
-/
import Derived.Test.YtpagdcobhbkabaaDoorOctD
import Derived.Test.YtpagdcobhbkabaaDoorOnly
namespace Go.Proofs.YtpagdcobhbkabaaDoor
open Go.RowKit Go.Sort Go.Shelf Go.Deep Go.WideShapes

/-- A reader of the program's, at p, its bytes in the block q. -/
def Rdr (w : World) (p q : Nat) (s : Oct.St) : Prop := ∃ A n c, Blk w p 84 #[.slice A n c, .bool true, .int .i64 s.e] ∧ Sl w q A n c s.l ∧ Oct.Bys s.l ∧ n ≤ 10000
theorem Rdr.later {w w' : World} {p q : Nat} {s : Oct.St} (h : Rdr w p q s) (hb : Below w.heap.size w w') : Rdr w' p q s := by
  obtain ⟨A, n, c, h1, h2, h3⟩ := h
  exact ⟨A, n, c, h1.later hb, h2.later hb, h3⟩
theorem Rdr.lt {w : World} {p q : Nat} {s : Oct.St} (h : Rdr w p q s) : p < w.heap.size := by
  obtain ⟨A, n, c, h1, h2, h3⟩ := h
  exact h1.lt
theorem Rdr.only {w w' : World} {p q : Nat} {s : Oct.St} {F : Nat → Prop} (h : Rdr w p q s) (ho : Only F w w') (hp : ¬ F p) (hq : ¬ F q) : Rdr w' p q s := by
  obtain ⟨A, n, c, h1, h2, h3⟩ := h
  exact ⟨A, n, c, (ho.block p h1.lt hp).trans h1, h2.far ho.size (fun hlt => ho.block q hlt hq), h3⟩

theorem newr_any (A : Option Addr) (n c q : Nat) (l : List Int) (w : World) (h : Sl w q A n c l) (hs : n ≤ 10000) (hl : Oct.Bys l) :
    Calls Tryd.prog 46 #[.slice A n c] w fun e w' => ∃ p q', e = .returned (.pointer (some ⟨p, 0, none⟩)) ∧ Rdr w' p q' ⟨l, 0⟩ ∧ w.heap.size ≤ p ∧ w.heap.size ≤ q' ∧ p ≠ q' ∧ Below w.heap.size w w' := by
  have hc := clone_any A n c q l w h (by omega)
  have hn := h.1
  clear h
  go_enter Tryd.func46, Tryd.ntmps46
  go_wp2_with fail
  refine hc.mono ?_
  rintro e w1 ⟨v', rfl, ho, hb⟩
  obtain ⟨q', A', c', rfl, hq, hsl, hob⟩ := ho.open_
  rw [hn] at hsl
  have hq1 : q' < w1.heap.size ∨ A' = none := by
    rcases hsl.2.2.2 with ⟨h1, _⟩ | ⟨off, _, h2, _⟩
    · exact .inr h1
    · exact .inl h2
  clear hob
  go_wp2
  go_ret
  have hsz := hb.size
  rcases hq1 with hq1 | rfl
  · exact ⟨_, q', rfl, ⟨A', n, c', by rw [← hn]; exact Blk.new w1 _ _, hsl.later (laterA (Below.refl _ _) _), hl, hs⟩, hsz, hq, by omega, laterA hb _⟩
  · refine ⟨_, w1.heap.size + 1, rfl, ⟨none, n, c', by rw [← hn]; exact Blk.new w1 _ _, ?_, hl, hs⟩, hsz, by omega, by omega, laterA hb _⟩
    obtain ⟨h1, h2, h3, ⟨_, h4, h5⟩ | ⟨off, h4, _⟩⟩ := hsl
    · exact ⟨h1, h2, h3, .inl ⟨rfl, h4, h5⟩⟩
    · cases h4

theorem none_any (p : Nat) (u0 u2 : Value) (b : Bool) (w : World) (h : Blk w p 84 #[u0, .bool b, u2]) :
    Calls Tryd.prog 62 #[.pointer (some ⟨p, 0, none⟩)] w fun e w' => e = .returned (.bool (!b)) ∧ w = w' := by
  have y1 := h.cell 1
  simp at y1
  clear h
  go_enter Tryd.func62, Tryd.ntmps62
  go_wp2
  go_ret
  exact ⟨rfl, rfl⟩
theorem none_nil (w : World) : Calls Tryd.prog 62 #[.pointer none] w fun e w' => e = .returned (.bool true) ∧ w = w' := by
  go_enter Tryd.func62, Tryd.ntmps62
  go_wp2
  go_ret
  exact ⟨rfl, rfl⟩

theorem err_any (p q : Nat) (s : Oct.St) (w : World) (h : Rdr w p q s) : Calls Tryd.prog 48 #[.pointer (some ⟨p, 0, none⟩)] w fun e w' => e = .returned (.int .i64 s.e) ∧ w = w' := by
  obtain ⟨A, n, c, hx, _⟩ := h
  have hn := none_any p _ _ _ w hx
  have y2 := hx.cell 2
  simp at y2
  clear hx
  obtain ⟨l, e⟩ := s
  go_enter Tryd.func48, Tryd.ntmps48
  go_wp2_with fail
  refine hn.mono ?_
  rintro e w1 ⟨rfl, rfl⟩
  go_wp2
  go_ret
  exact ⟨rfl, rfl⟩
theorem left_any (p q : Nat) (s : Oct.St) (w : World) (h : Rdr w p q s) : Calls Tryd.prog 49 #[.pointer (some ⟨p, 0, none⟩)] w fun e w' => e = .returned (.int .i64 s.l.length) ∧ w = w' := by
  obtain ⟨A, n, c, hx, hsl, _⟩ := h
  have hn := none_any p _ _ _ w hx
  have y0 := hx.cell 0
  simp at y0
  have hl := hsl.1
  rw [hl]
  clear hx hsl
  go_enter Tryd.func49, Tryd.ntmps49
  go_wp2_with fail
  refine hn.mono ?_
  rintro e w1 ⟨rfl, rfl⟩
  go_wp2
  go_ret
  exact ⟨rfl, rfl⟩
/-! ### Slices of slices -/
theorem slice_from {w : World} {q n c : Nat} {A : Option Addr} {l : List Int} (h : Sl w q A n c l) {K : Nat} (hK : K ≤ n) :
    ∃ A2, (∀ W : World, (Instr.slice 27 (.slice A n c) (some (.int .i64 (K : Int))) none none).run Tryd.prog W = .ok (.slice A2 (n - K) (c - K)) W) ∧ Sl w q A2 (n - K) (c - K) (l.drop K) := by
  obtain ⟨h1, h2, h3, h4⟩ := h
  have he : Tryd.prog.elem 27 = 5 := by simp [Program.elem, Tryd.underlying27]
  have ht' : Tryd.prog.underlying 27 = some (.slice (Tryd.prog.elem 27)) := by rw [he]; exact Tryd.underlying27
  refine ⟨if c = K then A else A.map (·.add (K * 1)), fun W => ?_, by rw [List.length_drop, h1], by omega, by unfold maxLen at *; omega, ?_⟩
  · rw [run_slice_l W 27 _ _ _ ht' .i64 _ (by omega) (by omega), he, Tryd.sizeOf5 W]
    rfl
  · rcases h4 with ⟨rfl, rfl, rfl⟩ | ⟨off, rfl, hq, h5⟩
    · left; exact ⟨by split <;> rfl, by omega, by omega⟩
    · right
      by_cases hc : c = K
      · rw [if_pos hc]
        refine ⟨off, rfl, hq, fun k hk => ?_⟩
        rw [List.length_drop] at hk
        omega
      · rw [if_neg hc]
        refine ⟨off + K, ?_, hq, fun k hk => ?_⟩
        · rw [Nat.mul_one, Option.map_some, add_lit0]
        · rw [List.length_drop] at hk
          rw [List.getElem_drop, Nat.add_assoc]
          exact h5 (K + k) (by omega)
theorem slice_to {w : World} {q n c : Nat} {A : Option Addr} {l : List Int} (h : Sl w q A n c l) {K : Nat} (hK : K ≤ n) :
    ∃ A2, (∀ W : World, (Instr.slice 27 (.slice A n c) none (some (.int .i64 (K : Int))) none).run Tryd.prog W = .ok (.slice A2 K c) W) ∧ Sl w q A2 K c (l.take K) := by
  obtain ⟨h1, h2, h3, h4⟩ := h
  have he : Tryd.prog.elem 27 = 5 := by simp [Program.elem, Tryd.underlying27]
  have ht' : Tryd.prog.underlying 27 = some (.slice (Tryd.prog.elem 27)) := by rw [he]; exact Tryd.underlying27
  refine ⟨if c = 0 then A else A.map (·.add (0 * 1)), fun W => ?_, by rw [List.length_take, h1]; omega, by omega, h3, ?_⟩
  · rw [run_slice_h W 27 _ _ _ ht' .i64 _ (by omega) (by omega), he, Tryd.sizeOf5 W]
    rfl
  · rcases h4 with ⟨rfl, rfl, rfl⟩ | ⟨off, rfl, hq, h5⟩
    · left; exact ⟨by split <;> rfl, by omega, rfl⟩
    · right
      refine ⟨off, ?_, hq, fun k hk => ?_⟩
      · split
        · rfl
        · rw [Nat.zero_mul, Option.map_some, add_lit0, Nat.add_zero]
      · rw [List.length_take] at hk
        rw [List.getElem_take]
        exact h5 k (by omega)

end Go.Proofs.YtpagdcobhbkabaaDoor
