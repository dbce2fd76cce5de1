/-
  Layer 13, plain: what was taken in a row of fillings is at most the burst and what came in.
-/
import Derived.Test.YtniiemmgcjkphaaBktP
namespace Go.Proofs.Ytniiemmgcjkphaa
namespace Bkt

/-- The numbers from the i-th to ahead of the j-th, in all. -/
def seg (l : List Int) (i j : Nat) : Int := ((l.take j).drop i).sum
theorem seg_self (l : List Int) {i j : Nat} (h : j ≤ i) : seg l i j = 0 := by
  unfold seg
  rw [List.drop_eq_nil_of_le (by rw [List.length_take]; omega)]
  rfl
theorem seg_succ (l : List Int) {i j : Nat} (h : i ≤ j) (hj : j < l.length) : seg l i (j + 1) = seg l i j + l[j] := by
  unfold seg
  rw [List.take_succ_eq_append_getElem hj, List.drop_append_of_le_length (by rw [List.length_take]; omega), List.sum_append_int]
  simp
theorem seg_old (l : List Int) (x : Int) {i j : Nat} (hj : j ≤ l.length) : seg (l ++ [x]) i j = seg l i j := by
  unfold seg
  rw [List.take_append_of_le_length hj]
theorem seg_snoc (l : List Int) (x : Int) {i : Nat} (h : i ≤ l.length) : seg (l ++ [x]) i (l.length + 1) = seg l i l.length + x := by
  rw [seg_succ _ h (by simp), seg_old _ _ (Nat.le_refl _)]
  simp
theorem seg_bd {l : List Int} {C : Int} (h : ∀ x ∈ l, 0 ≤ x ∧ x ≤ C) (i : Nat) : ∀ j, j ≤ l.length → 0 ≤ seg l i j ∧ seg l i j ≤ C * j
  | 0, _ => by rw [seg_self l (Nat.zero_le i)]; simp
  | j + 1, hj => by
    have ih := seg_bd h i j (by omega)
    have hx := h (l[j]) (List.getElem_mem _)
    have e : C * ((j + 1 : Nat) : Int) = C * (j : Int) + C := by rw [Int.natCast_succ, Int.mul_add, Int.mul_one]
    by_cases hi : i ≤ j
    · rw [seg_succ l hi (by omega), e]; omega
    · rw [seg_self l (by omega), e]
      have : 0 ≤ C * (j : Int) := Int.mul_nonneg (by omega) (by omega)
      omega

/-- What may have come in behind the i-th. -/
def most (ml : List Int) (i j : Nat) : Int := seg ml (i + 1) j + ((j - (i + 1) : Nat) : Int)
def Good (B : Int) (tk ml : List Int) : Prop := ∀ i j, i < j → j ≤ tk.length → seg tk i j ≤ B + most ml i j
structure Inv (B : Int) (tk ml : List Int) (n : Int) : Prop where
  len : tk.length = ml.length
  good : Good B tk ml
  now : ∀ i, i < tk.length → seg tk i tk.length + n ≤ B + most ml i tk.length
  n0 : 0 ≤ n
  n1 : n ≤ B

theorem most_self (ml : List Int) (i : Nat) : most ml i i = 0 := by unfold most; rw [seg_self _ (by omega)]; simp
theorem most_next (ml : List Int) (i : Nat) : most ml i (i + 1) = 0 := by unfold most; rw [seg_self _ (by omega)]; simp
theorem most_succ (ml : List Int) {i j : Nat} (h : i < j) (hj : j < ml.length) : most ml i (j + 1) = most ml i j + ml[j] + 1 := by
  unfold most
  rw [seg_succ _ (by omega) hj]
  omega
theorem inv_nil {B n : Int} (n0 : 0 ≤ n) (n1 : n ≤ B) : Inv B [] [] n := ⟨rfl, fun i j h hj => by simp at hj; omega, fun i hi => by simp at hi, n0, n1⟩

theorem inv_step {B n n' k m : Int} {tk ml : List Int} (h : Inv B tk ml n) (h1 : n' ≤ n + m) (h2 : n' ≤ B) (k0 : 0 ≤ k) (k1 : k ≤ n') : Inv B (tk ++ [k]) (ml ++ [m]) (n' - k) := by
  have hl := h.len
  have hnow : ∀ i, i < (tk ++ [k]).length → seg (tk ++ [k]) i (tk ++ [k]).length + (n' - k) ≤ B + most (ml ++ [m]) i (tk ++ [k]).length := by
    intro i hi
    simp only [List.length_append, List.length_singleton] at hi ⊢
    rw [seg_snoc tk k (by omega)]
    by_cases hi' : i < tk.length
    · have := h.now i hi'
      have e : most (ml ++ [m]) i (tk.length + 1) = most ml i tk.length + m + 1 := by
        rw [most_succ _ hi' (by simp; omega)]
        have e1 : most (ml ++ [m]) i tk.length = most ml i tk.length := by unfold most; rw [seg_old _ _ (by omega)]
        rw [e1]
        simp [hl]
      rw [e]; omega
    · obtain rfl : i = tk.length := by omega
      rw [seg_self tk (Nat.le_refl _), most_next]; omega
  refine ⟨by simp [hl], fun i j hij hj => ?_, hnow, by omega, by omega⟩
  simp only [List.length_append, List.length_singleton] at hj
  by_cases hj' : j ≤ tk.length
  · have := h.good i j hij hj'
    rw [seg_old _ _ hj']
    have e1 : most (ml ++ [m]) i j = most ml i j := by unfold most; rw [seg_old _ _ (by omega)]
    rw [e1]; exact this
  · obtain rfl : j = tk.length + 1 := by omega
    have := hnow i (by simp; omega)
    simp only [List.length_append, List.length_singleton] at this
    omega
end Bkt
end Go.Proofs.Ytniiemmgcjkphaa
