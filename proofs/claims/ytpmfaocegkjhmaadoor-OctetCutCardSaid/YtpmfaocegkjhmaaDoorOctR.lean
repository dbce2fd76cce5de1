/-
  Layer 2: rows of numbers, plainly; a slice of rows, cut.
-/
import Derived.Test.YtpmfaocegkjhmaaDoorOctQ
import Derived.Test.YtpmfaocegkjhmaaDoorOctO
namespace Go.Proofs.YtpmfaocegkjhmaaDoor
open Go.RowKit Go.Sort Go.Shelf Go.Deep Go.WideShapes

namespace Oct
def encs : List (Int × Int) → List Int
  | [] => []
  | p :: t => enc p.1 p.2.toNat ++ encs t
theorem encs_app (a b : List (Int × Int)) : encs (a ++ b) = encs a ++ encs b := by
  induction a with
  | nil => rfl
  | cons p t ih => simp [encs, ih]
def row (f : Nat → Nat → Int) (k : Nat) : Int × Int := (nOf (f k 0) (f k 1), sOf (nOf (f k 0) (f k 1)) (f k 2))
def rows (f : Nat → Nat → Int) (K : Nat) : List (Int × Int) := (List.range K).map (row f)
theorem rows_succ (f : Nat → Nat → Int) (k : Nat) : rows f (k + 1) = rows f k ++ [row f k] := by simp [rows, List.range_succ]
theorem rows_drop (f : Nat → Nat → Int) {K k : Nat} (h : k < K) : (rows f K).drop k = row f k :: (rows f K).drop (k + 1) := by
  rw [List.drop_eq_getElem_cons (by simp [rows]; exact h)]
  simp [rows]
theorem rows_length (f : Nat → Nat → Int) (K : Nat) : (rows f K).length = K := by simp [rows]
theorem row_sz (f : Nat → Nat → Int) (k : Nat) : Sz (row f k).1 (row f k).2 := sOf_sz _ _ _
theorem encs_succ (f : Nat → Nat → Int) (k : Nat) : encs (rows f (k + 1)) = encs (rows f k) ++ enc (row f k).1 (row f k).2.toNat := by
  rw [rows_succ, encs_app]
  simp [encs]
theorem encs_bys (f : Nat → Nat → Int) (k : Nat) : Bys (encs (rows f k)) := by
  induction k with
  | zero => exact Bys.nil
  | succ k ih =>
    rw [encs_succ]
    exact ih.app (enc_bys (row_sz f k).2)
theorem encs_length (f : Nat → Nat → Int) (k : Nat) : (encs (rows f k)).length ≤ 8 * k := by
  induction k with
  | zero => simp [rows, encs]
  | succ k ih =>
    rw [encs_succ, List.length_append, enc_length]
    have := (row_sz f k).1
    omega
theorem encs_drop (f : Nat → Nat → Int) {K k : Nat} (h : k < K) : encs ((rows f K).drop k) = enc (row f k).1 (row f k).2.toNat ++ encs ((rows f K).drop (k + 1)) := by
  rw [rows_drop f h]
  rfl
theorem encs_split (f : Nat → Nat → Int) {K k : Nat} (h : k ≤ K) : encs (rows f K) = encs (rows f k) ++ encs ((rows f K).drop k) := by
  rw [← encs_app]
  congr 1
  have e : rows f k = (rows f K).take k := by
    simp only [rows, ← List.map_take]
    rw [List.take_range, Nat.min_eq_left h]
  rw [e, List.take_append_drop]
end Oct

theorem row_info : Tryd.prog.underlying 38 = some (.slice 34) := Tryd.underlying38
theorem rd_to {w : World} {A : Option Addr} {n c : Nat} {f : Nat → Nat → Int} (h : Rd w A 3 n f) (hc : n ≤ c) {K : Nat} (hK : K ≤ n) :
    ∃ A2, (∀ W : World, (Instr.slice 38 (.slice A n c) none (some (.int .i64 (K : Int))) none).run Tryd.prog W = .ok (.slice A2 K c) W) ∧ Rd w A2 3 K f := by
  have he : Tryd.prog.elem 38 = 34 := by simp [Program.elem, Tryd.underlying38]
  have ht' : Tryd.prog.underlying 38 = some (.slice (Tryd.prog.elem 38)) := by rw [he]; exact Tryd.underlying38
  refine ⟨if c = 0 then A else A.map (·.add (0 * 3)), fun W => ?_, fun h0 => ?_⟩
  · rw [run_slice_h W 38 _ _ _ ht' .i64 _ (by omega) (by omega), he, Tryd.sizeOf34 W]
    rfl
  · obtain ⟨b, off, rfl, hb, hcell⟩ := h (by omega)
    refine ⟨b, off, ?_, hb, fun k hk j hj => hcell k (by omega) j hj⟩
    split
    · rfl
    · rw [Nat.zero_mul, Option.map_some, add_lit0, Nat.add_zero]
end Go.Proofs.YtpmfaocegkjhmaaDoor
