/-
  Layer 2: the statements' made: a number of a row, and in which size.
-/
import Derived.Test.YtpagdcobhbkabaaDoorOctM
import Derived.Test.YtpagdcobhbkabaaDoorBring
namespace Go.Proofs.YtpagdcobhbkabaaDoor
open Go.RowKit Go.Sort Go.Shelf Go.Deep Go.WideShapes

namespace Oct
def nOf (x y : Int) : Int := x % 9007199254740992 / 2 ^ min (y % 53).toNat 64
def dbl : Nat → Int → Int
  | 0, s => s
  | k + 1, s => if 0 < s ∧ s < 8 then dbl k (2 * s) else s
def sOf (n z : Int) : Int := dbl (z % 4).toNat (size n)
theorem two_pos (k : Nat) : (0 : Int) < 2 ^ k := Int.pow_pos (by decide)
theorem nOf_range (x y : Int) : 0 ≤ nOf x y ∧ nOf x y ≤ 9007199254740991 := by
  unfold nOf
  have h1 := Int.emod_nonneg x (show (9007199254740992 : Int) ≠ 0 by omega)
  have h2 := Int.emod_lt_of_pos x (show (0 : Int) < 9007199254740992 by omega)
  have h3 := two_pos (min (y % 53).toNat 64)
  generalize x % 9007199254740992 = a at *
  generalize (2 : Int) ^ min (y % 53).toNat 64 = p at *
  refine ⟨Int.ediv_nonneg h1 (by omega), ?_⟩
  have := Int.ediv_le_self p h1
  omega
def Sz (n s : Int) : Prop := (s = 1 ∨ s = 2 ∨ s = 4 ∨ s = 8) ∧ Fits n s.toNat
theorem Sz.dbl {n s : Int} (h : Sz n s) (hs : s < 8) : Sz n (2 * s) := by
  obtain ⟨h1 | h1 | h1 | h1, h2⟩ := h <;> subst h1 <;> obtain ⟨f0, f⟩ := h2
  · exact ⟨by omega, f0, by omega⟩
  · exact ⟨by omega, f0, by omega⟩
  · exact ⟨by omega, f0, by omega⟩
  · omega
theorem dbl_sz (n : Int) : ∀ (k : Nat) (s : Int), Sz n s → Sz n (Oct.dbl k s)
  | 0, s, h => h
  | k + 1, s, h => by
    unfold Oct.dbl
    split
    · exact dbl_sz n k _ (h.dbl (by omega))
    · exact h
theorem sOf_sz (x y z : Int) : Sz (nOf x y) (sOf (nOf x y) z) := by
  obtain ⟨h0, h1⟩ := nOf_range x y
  obtain ⟨hf, hp, h8⟩ := fits_size h0 h1
  refine dbl_sz _ _ _ ⟨?_, hf⟩
  have := size_cls (nOf x y)
  omega
end Oct

theorem Lim.drewN {w : World} (h : Lim w) (n : Nat) : Lim (w.drewN n) := h

end Go.Proofs.YtpagdcobhbkabaaDoor
