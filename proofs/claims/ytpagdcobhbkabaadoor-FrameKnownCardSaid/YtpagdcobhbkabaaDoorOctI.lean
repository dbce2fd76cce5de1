/-
  Layer 2: the program's Strict.
-/
import Derived.Test.YtpagdcobhbkabaaDoorOctH
namespace Go.Proofs.YtpagdcobhbkabaaDoor
open Go.RowKit Go.Sort Go.Shelf Go.Deep Go.WideShapes

/-- How many bytes the slice in a reader's first field has. -/
def lenAt (w : World) (p : Nat) : Nat := match w.cell? ⟨p, 0, none⟩ with | some (.slice _ n _) => n | _ => 0
theorem Rdr.lenAt {w : World} {p q : Nat} {s : Oct.St} (h : Rdr w p q s) : lenAt w p = s.l.length := by
  obtain ⟨A, n, c, hx, hsl, _⟩ := h
  have y0 := hx.cell 0
  simp at y0
  unfold Go.Proofs.YtpagdcobhbkabaaDoor.lenAt
  rw [y0]
  exact hsl.1.symm

theorem old_later2 {B : Nat} {a w w' : World} (h : Below B a w) (k : Below w.heap.size w w') (hs : B ≤ w.heap.size) : Below B a w' := h.trans (k.mono hs)

end Go.Proofs.YtpagdcobhbkabaaDoor
