/-
  Layer 2: the statements' works.
-/
import Derived.Test.YtpagdcobhbkabaaDoorOctL
namespace Go.Proofs.YtpagdcobhbkabaaDoor
open Go.RowKit Go.Sort Go.Shelf Go.Deep Go.WideShapes

theorem w_enc1 : ([37] : List Int) = Oct.enc 37 (Oct.size 37).toNat := by kernel_rfl
theorem w_enc2 : ([123, 189] : List Int) = Oct.enc 15293 (Oct.size 15293).toNat := by kernel_rfl
theorem w_enc3 : ([157, 127, 62, 125] : List Int) = Oct.enc 494878333 (Oct.size 494878333).toNat := by kernel_rfl
theorem w_put1 : Oct.putIn [] 37 2 = ([64, 37], 0) := by kernel_rfl
theorem w_put2 : Oct.putIn [] 64 1 = ([], 2) := by kernel_rfl
theorem w_put3 : Oct.put [] (-1) = ([], 9) := by kernel_rfl
theorem w_num1 : Oct.num ⟨[64, 37], 0⟩ = (37, ⟨[], 0⟩) := by kernel_rfl
theorem w_num2 : Oct.num ⟨[64], 0⟩ = (0, ⟨[64], 3⟩) := by kernel_rfl
theorem w_num3 : Oct.num ⟨[255, 255, 255, 255, 255, 255, 255, 255], 0⟩ = (0, ⟨[255, 255, 255, 255, 255, 255, 255, 255], 9⟩) := by kernel_rfl
theorem w_str1 : Oct.strict [64, 37] = false := by kernel_rfl
theorem w_str2 : Oct.strict [37, 123, 189] = true := by kernel_rfl
theorem bys_dec {l : List Int} (h : l.all (fun x => decide (0 ≤ x ∧ x < 256)) = true) : Oct.Bys l := fun x hx => by
  have := List.all_eq_true.1 h x hx
  simpa using this
theorem Rdr.but {w w' : World} {p q p' : Nat} {s : Oct.St} (h : Rdr w p q s) (ho : Only (· = p') w w') (hp : p ≠ p') (hq : q ≠ p') : Rdr w' p q s := h.only ho hp hq
theorem RRdr.but {w w' : World} {p q p' : Nat} {s : Oct.St} (h : RRdr w p q s) (ho : Only (· = p') w w') (hp : p ≠ p') (hq : q ≠ p') : RRdr w' p q s := h.only ho hp hq
theorem At.q_ne {w w0 : World} {B p q B' p' q' : Nat} (h : At w B p q) (h' : At w0 B' p' q') (hs : w.heap.size ≤ B') : q ≠ p' := by
  have := h.q1; have := h'.p0; omega
theorem At.p_ne {w w0 : World} {B p q B' p' q' : Nat} (h : At w B p q) (h' : At w0 B' p' q') (hs : w.heap.size ≤ B') : p ≠ p' := by
  have := h.p1; have := h'.p0; omega
theorem At.q_ne' {w w0 : World} {B p q B' p' q' : Nat} (h : At w B p q) (h' : At w0 B' p' q') (hs : w.heap.size ≤ B') (hB : 0 < B) : q' ≠ p := by
  have := h.p1; have := h'.q0; have := h.p0; omega

end Go.Proofs.YtpagdcobhbkabaaDoor
