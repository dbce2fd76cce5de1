/-
  Layer 2: OctetBack.
-/
import Derived.Test.YtpagdcobhbkabaaDoorOctR
import Derived.BigQuiet
namespace Go.Proofs.YtpagdcobhbkabaaDoor
open Go.RowKit Go.Sort Go.Shelf Go.Deep Go.WideShapes

theorem Rd.row3 {w : World} {A : Option Addr} {n : Nat} {f : Nat → Nat → Int} (h : Rd w A 3 n f) {k : Nat} (hk : k < n) :
    ∃ b off, A = some ⟨b, off, none⟩ ∧ ∀ wx, Below w.heap.size w wx → wx.cell? ⟨b, off + k * 3, none⟩ = some (.int .i64 (f k 0)) ∧ wx.cell? ⟨b, off + k * 3 + 1, none⟩ = some (.int .i64 (f k 1)) ∧ wx.cell? ⟨b, off + k * 3 + 2, none⟩ = some (.int .i64 (f k 2)) := by
  obtain ⟨b, off, rfl, hb, hc⟩ := h (by omega)
  have g : ∀ wx, Below w.heap.size w wx → ∀ j, j < 3 → wx.cell? ⟨b, off + k * 3 + j, none⟩ = some (.int .i64 (f k j)) := fun wx hx j hj => by
    have := (hx.cell (p := ⟨b, _, none⟩) hb).trans (hc k hk j hj)
    rwa [show off + (k * 3 + j) = off + k * 3 + j by omega] at this
  exact ⟨b, off, rfl, fun wx hx => ⟨g wx hx 0 (by omega), g wx hx 1 (by omega), g wx hx 2 (by omega)⟩⟩

theorem take_front {la lc : List Int} {K : Nat} (h : la.length = K) : Oct.take (K : Int) ⟨la ++ lc, 0⟩ = (la, ⟨lc, 0⟩) := by
  unfold Oct.take
  rw [if_pos rfl, if_neg (by omega), if_neg (by simp; omega), Int.toNat_natCast, ← h]
  simp
theorem num_front {n : Int} {s : Nat} (h : Oct.Fits n s) (r : List Int) : Oct.num ⟨Oct.enc n s ++ r, 0⟩ = (n, ⟨r, 0⟩) := Oct.numL_enc h r
theorem row_pair (f : Nat → Nat → Int) (k : Nat) : ∃ (NN : Int) (S : Nat), Oct.nOf (f k 0) (f k 1) = NN ∧ Oct.sOf (Oct.nOf (f k 0) (f k 1)) (f k 2) = (S : Int) ∧ Oct.row f k = (NN, (S : Int)) ∧ Oct.Fits NN S ∧ S ≤ 8 := by
  have h := Oct.row_sz f k
  refine ⟨_, (Oct.row f k).2.toNat, rfl, ?_, ?_, h.2, ?_⟩
  · show (Oct.row f k).2 = _
    have := h.1
    omega
  · have := h.1
    show (_, (Oct.row f k).2) = (_, (((Oct.row f k).2.toNat : Nat) : Int))
    congr 1
    omega
  · have := h.1
    omega

end Go.Proofs.YtpagdcobhbkabaaDoor
