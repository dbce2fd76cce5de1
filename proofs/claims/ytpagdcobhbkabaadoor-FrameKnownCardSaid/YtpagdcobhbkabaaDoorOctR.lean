/-
  Layer 2: rows of numbers, plainly; a slice of rows, cut.
-/
import Derived.Test.YtpagdcobhbkabaaDoorOctQ
import Derived.Test.YtpagdcobhbkabaaDoorOctO
namespace Go.Proofs.YtpagdcobhbkabaaDoor
open Go.RowKit Go.Sort Go.Shelf Go.Deep Go.WideShapes

namespace Oct
def encs : List (Int × Int) → List Int
  | [] => []
  | p :: t => enc p.1 p.2.toNat ++ encs t
theorem encs_app (a b : List (Int × Int)) : encs (a ++ b) = encs a ++ encs b := by
  induction a with
  | nil => rfl
  | cons p t ih => simp [encs, ih]
def row (f : Nat → Nat → Int) (k : Nat) : Int × Int := (nOf (f k 0) (f k 1), sOf (nOf (f k 0) (f k 1)) (f k 2))
def rows (f : Nat → Nat → Int) (K : Nat) : List (Int × Int) := (List.range K).map (row f)
theorem rows_succ (f : Nat → Nat → Int) (k : Nat) : rows f (k + 1) = rows f k ++ [row f k] := by simp [rows, List.range_succ]
theorem rows_drop (f : Nat → Nat → Int) {K k : Nat} (h : k < K) : (rows f K).drop k = row f k :: (rows f K).drop (k + 1) := by
  rw [List.drop_eq_getElem_cons (by simp [rows]; exact h)]
  simp [rows]
theorem rows_length (f : Nat → Nat → Int) (K : Nat) : (rows f K).length = K := by simp [rows]
theorem row_sz (f : Nat → Nat → Int) (k : Nat) : Sz (row f k).1 (row f k).2 := sOf_sz _ _ _
theorem encs_succ (f : Nat → Nat → Int) (k : Nat) : encs (rows f (k + 1)) = encs (rows f k) ++ enc (row f k).1 (row f k).2.toNat := by
  rw [rows_succ, encs_app]
  simp [encs]
theorem encs_bys (f : Nat → Nat → Int) (k : Nat) : Bys (encs (rows f k)) := by
  induction k with
  | zero => exact Bys.nil
  | succ k ih =>
    rw [encs_succ]
    exact ih.app (enc_bys (row_sz f k).2)
theorem encs_length (f : Nat → Nat → Int) (k : Nat) : (encs (rows f k)).length ≤ 8 * k := by
  induction k with
  | zero => simp [rows, encs]
  | succ k ih =>
    rw [encs_succ, List.length_append, enc_length]
    have := (row_sz f k).1
    omega
theorem encs_drop (f : Nat → Nat → Int) {K k : Nat} (h : k < K) : encs ((rows f K).drop k) = enc (row f k).1 (row f k).2.toNat ++ encs ((rows f K).drop (k + 1)) := by
  rw [rows_drop f h]
  rfl
theorem encs_split (f : Nat → Nat → Int) {K k : Nat} (h : k ≤ K) : encs (rows f K) = encs (rows f k) ++ encs ((rows f K).drop k) := by
  rw [← encs_app]
  congr 1
  have e : rows f k = (rows f K).take k := by
    simp only [rows, ← List.map_take]
    rw [List.take_range, Nat.min_eq_left h]
  rw [e, List.take_append_drop]
end Oct

end Go.Proofs.YtpagdcobhbkabaaDoor
