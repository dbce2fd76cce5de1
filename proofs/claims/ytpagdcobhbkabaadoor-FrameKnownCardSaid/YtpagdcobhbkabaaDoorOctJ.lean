/-
  Layer 2: the document's reader: NewReader, Left, End, Take, Num.
-/
import Derived.Test.YtpagdcobhbkabaaDoorOctI
namespace Go.Proofs.YtpagdcobhbkabaaDoor
open Go.RowKit Go.Sort Go.Shelf Go.Deep Go.WideShapes

/-- A reader of the document's, at p, its bytes in the block q. -/
def RRdr (w : World) (p q : Nat) (s : Oct.St) : Prop := ∃ A n c, Blk w p 87 #[.slice A n c, .int .i64 s.e] ∧ Sl w q A n c s.l ∧ Oct.Bys s.l ∧ n ≤ 10000
theorem RRdr.later {w w' : World} {p q : Nat} {s : Oct.St} (h : RRdr w p q s) (hb : Below w.heap.size w w') : RRdr w' p q s := by
  obtain ⟨A, n, c, h1, h2, h3⟩ := h
  exact ⟨A, n, c, h1.later hb, h2.later hb, h3⟩
theorem RRdr.lt {w : World} {p q : Nat} {s : Oct.St} (h : RRdr w p q s) : p < w.heap.size := by
  obtain ⟨A, n, c, h1, h2, h3⟩ := h
  exact h1.lt
theorem RRdr.only {w w' : World} {p q : Nat} {s : Oct.St} {F : Nat → Prop} (h : RRdr w p q s) (ho : Only F w w') (hp : ¬ F p) (hq : ¬ F q) : RRdr w' p q s := by
  obtain ⟨A, n, c, h1, h2, h3⟩ := h
  exact ⟨A, n, c, (ho.block p h1.lt hp).trans h1, h2.far ho.size (fun hlt => ho.block q hlt hq), h3⟩

theorem rnewr_any (A : Option Addr) (n c : Nat) (l : List Int) (w : World) (h : Rb w A n c l) (hs : n ≤ 10000) (hl : Oct.Bys l) :
    Calls Tryd.prog 50 #[.slice A n c] w fun e w' => ∃ p q', e = .returned (.pointer (some ⟨p, 0, none⟩)) ∧ RRdr w' p q' ⟨l, 0⟩ ∧ w.heap.size ≤ p ∧ w.heap.size ≤ q' ∧ p ≠ q' ∧ Below w.heap.size w w' := by
  have hc := copyb_any A n c l w h (by omega)
  have hn := h.1
  clear h
  go_enter Tryd.func50, Tryd.ntmps50
  go_wp2_with fail
  refine hc.mono ?_
  rintro e w1 ⟨v', rfl, ho, hb⟩
  obtain ⟨q', A', c', rfl, hq, hsl, hob⟩ := ho.open_
  rw [hn] at hsl
  have hq1 : q' < w1.heap.size ∨ A' = none := by
    rcases hsl.2.2.2 with ⟨h1, _⟩ | ⟨off, _, h2, _⟩
    · exact .inr h1
    · exact .inl h2
  clear hob
  go_wp2
  go_ret
  have hsz := hb.size
  rcases hq1 with hq1 | rfl
  · exact ⟨_, q', rfl, ⟨A', n, c', by rw [← hn]; exact Blk.new w1 _ _, hsl.later (laterA (Below.refl _ _) _), hl, hs⟩, hsz, hq, by omega, laterA hb _⟩
  · refine ⟨_, w1.heap.size + 1, rfl, ⟨none, n, c', by rw [← hn]; exact Blk.new w1 _ _, ?_, hl, hs⟩, hsz, by omega, by omega, laterA hb _⟩
    obtain ⟨h1, h2, h3, ⟨_, h4, h5⟩ | ⟨off, h4, _⟩⟩ := hsl
    · exact ⟨h1, h2, h3, .inl ⟨rfl, h4, h5⟩⟩
    · cases h4

theorem rleft_any (p q : Nat) (s : Oct.St) (w : World) (h : RRdr w p q s) : Calls Tryd.prog 53 #[.pointer (some ⟨p, 0, none⟩)] w fun e w' => e = .returned (.int .i64 s.l.length) ∧ w = w' := by
  obtain ⟨A, n, c, hx, hsl, _⟩ := h
  have y0 := hx.cell 0
  simp at y0
  have hl := hsl.1
  rw [hl]
  clear hx hsl
  go_enter Tryd.func53, Tryd.ntmps53
  go_wp2
  go_ret
  exact ⟨rfl, rfl⟩
end Go.Proofs.YtpagdcobhbkabaaDoor
