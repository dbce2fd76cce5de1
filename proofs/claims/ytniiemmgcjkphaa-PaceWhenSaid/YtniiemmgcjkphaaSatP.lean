/-
  Plain laws on what package sat computes. No program in sight.
-/
import Derived.Test.YtniiemmgcjkphaaSpec
namespace Go.Proofs.Ytniiemmgcjkphaa
namespace Sat

theorem quo_one (a b : Int) : mul a b = min (num a * num b) 9007199254740991 := by
  have h1 : num 1 = 1 := by decide
  unfold mul quo
  rw [h1, if_neg (by omega), Int.ediv_one]

theorem mul_lo (a b : Int) : 0 ≤ mul a b := quo_lo _ _ _
theorem mul_hi (a b : Int) : mul a b ≤ 9007199254740991 := quo_hi _ _ _
theorem add_lo (a b : Int) : 0 ≤ add a b := num_lo _
theorem add_hi (a b : Int) : add a b ≤ 9007199254740991 := num_hi _

theorem add_comm (a b : Int) : add a b = add b a := by unfold add; rw [Int.add_comm]
theorem mul_comm (a b : Int) : mul a b = mul b a := by rw [quo_one, quo_one, Int.mul_comm]
theorem add_assoc (a b c : Int) : add (add a b) c = add a (add b c) := by
  have a0 := num_lo a
  have b0 := num_lo b
  have c0 := num_lo c
  unfold add
  rw [num_num, num_num]
  generalize num a = x at *
  generalize num b = y at *
  generalize num c = z at *
  unfold num
  omega

theorem cut_assoc {x y z : Int} (z0 : 0 ≤ z) : min (min (x * y) 9007199254740991 * z) 9007199254740991 = min (x * y * z) 9007199254740991 := by
  by_cases h : x * y ≤ 9007199254740991
  · have hm : min (x * y) 9007199254740991 = x * y := by omega
    rw [hm]
  · have hm : min (x * y) 9007199254740991 = 9007199254740991 := by omega
    rw [hm]
    clear hm
    rcases Int.lt_or_eq_of_le z0 with hz | hz
    · have h1 : 9007199254740991 * 1 ≤ 9007199254740991 * z := Int.mul_le_mul_of_nonneg_left (by omega) (by omega)
      have h2 : 9007199254740991 * z ≤ x * y * z := Int.mul_le_mul_of_nonneg_right (by omega) z0
      omega
    · subst hz; simp

theorem mul_assoc (a b c : Int) : mul (mul a b) c = mul a (mul b c) := by
  have m1 : num (mul a b) = mul a b := num_id (mul_lo _ _) (mul_hi _ _)
  have m2 : num (mul b c) = mul b c := num_id (mul_lo _ _) (mul_hi _ _)
  rw [quo_one (mul a b), quo_one a (mul b c), m1, m2, quo_one a b, quo_one b c]
  rw [cut_assoc (num_lo c), Int.mul_comm (num a) (min _ _)]
  rw [cut_assoc (num_lo a)]
  congr 1
  rw [Int.mul_comm _ (num a), Int.mul_assoc]

theorem sub_add (a b : Int) (h : add a b ≠ 9007199254740991) : sub (add a b) b = num a := by
  have a0 := num_lo a
  have b0 := num_lo b
  have a1 := num_hi a
  unfold sub add at *
  rw [num_num]
  generalize num a = x at *
  generalize num b = y at *
  unfold num at *
  omega
theorem sub_self (a : Int) : sub a a = 0 := by
  unfold sub
  rw [Int.sub_self]
  rfl
theorem mul_1 (a : Int) : mul a 1 = num a := by
  have h1 : num 1 = 1 := by decide
  have := num_hi a
  rw [quo_one, h1]
  omega
theorem mul_0 (a : Int) : mul a 0 = 0 := by
  have h1 : num 0 = 0 := by decide
  rw [quo_one, h1]
  omega
theorem add_0 (a : Int) : add a 0 = num a := by
  have h1 : num 0 = 0 := by decide
  unfold add
  rw [h1, Int.add_zero, num_num]

/-! ### What rises -/
theorem quo_comm (a b c : Int) : quo a b c = quo b a c := by unfold quo; rw [Int.mul_comm]
theorem quo_mono {a a' : Int} (b c : Int) (h : num a ≤ num a') : quo a b c ≤ quo a' b c := by
  unfold quo
  split
  · omega
  · have h1 : num a * num b ≤ num a' * num b := Int.mul_le_mul_of_nonneg_right h (num_lo b)
    have h2 := Int.ediv_le_ediv (c := num c) (by have := num_lo c; omega) h1
    omega
theorem ediv_anti {X c c' : Int} (h0 : 0 ≤ X) (hc : 0 < c) (h : c ≤ c') : X / c' ≤ X / c := by
  rw [Int.le_ediv_iff_mul_le hc]
  have h1 : 0 ≤ X / c' := Int.ediv_nonneg h0 (by omega)
  have h2 : X / c' * c ≤ X / c' * c' := Int.mul_le_mul_of_nonneg_left h h1
  have h3 := Int.mul_ediv_add_emod X c'
  have h4 := Int.emod_nonneg X (show c' ≠ 0 by omega)
  have h5 : c' * (X / c') = X / c' * c' := Int.mul_comm _ _
  omega
theorem quo_anti {c c' : Int} (a b : Int) (hc : 0 < num c) (h : num c ≤ num c') : quo a b c' ≤ quo a b c := by
  unfold quo
  rw [if_neg (by omega), if_neg (by omega)]
  have := ediv_anti (Int.mul_nonneg (num_lo a) (num_lo b)) hc h
  omega
theorem up_ceil (a b c : Int) (hc : 0 < num c) : up a b c = min ((num a * num b + (num c - 1)) / num c) 9007199254740991 := by
  have h0 := Int.mul_nonneg (num_lo a) (num_lo b)
  have hc' : ¬ num c = 0 := by omega
  unfold up rest quo
  simp only [if_neg hc']
  clear hc'
  generalize num a * num b = X at *
  generalize num c = C at *
  have d1 := Int.mul_ediv_add_emod X C
  have d2 := Int.emod_lt_of_pos X hc
  have d3 := Int.emod_nonneg X (show C ≠ 0 by omega)
  have d4 := Int.ediv_nonneg h0 (show 0 ≤ C by omega)
  have e : (X + (C - 1)) / C = X / C + (X % C + (C - 1)) / C := by
    have : X + (C - 1) = X % C + (C - 1) + C * (X / C) := by omega
    rw [this, Int.add_mul_ediv_left _ _ (by omega)]; omega
  rw [e]
  clear e
  generalize X / C = q at *
  generalize X % C = r at *
  by_cases hr : r = 0
  · have : (r + (C - 1)) / C = 0 := Int.ediv_eq_zero_of_lt (by omega) (by omega)
    rw [this]
    rw [if_neg (by split <;> omega)]
    omega
  · have : (r + (C - 1)) / C = 1 := by
      have h1 : r + (C - 1) = r - 1 + C * 1 := by omega
      rw [h1, Int.add_mul_ediv_left _ _ (by omega), Int.ediv_eq_zero_of_lt (by omega) (by omega)]
      rfl
    rw [this]
    by_cases hb : 9007199254740991 < q
    · rw [if_pos hb, if_neg (by omega)]
      omega
    · rw [if_neg hb, if_pos (by omega)]
      unfold num
      omega
theorem up_mono {b b' : Int} (a c : Int) (hc : 0 < num c) (h : num b ≤ num b') : up a b c ≤ up a b' c := by
  rw [up_ceil a b c hc, up_ceil a b' c hc]
  have h1 : num a * num b ≤ num a * num b' := Int.mul_le_mul_of_nonneg_left h (num_lo a)
  have h2 := Int.ediv_le_ediv (c := num c) hc (show num a * num b + (num c - 1) ≤ num a * num b' + (num c - 1) by omega)
  omega
theorem add_mono {a a' : Int} (b : Int) (h : num a ≤ num a') : add a b ≤ add a' b := by unfold add num at *; omega
theorem sub_mono {a a' : Int} (b : Int) (h : num a ≤ num a') : sub a b ≤ sub a' b := by unfold sub num at *; omega
theorem sub_anti {a a' : Int} (b : Int) (h : num a ≤ num a') : sub b a' ≤ sub b a := by unfold sub num at *; omega

/-! ### Products in four parts of 27 bits -/
def l0 (a b : Int) : Int := a % 134217728 * (b % 134217728) % 134217728
def midl (a b : Int) : Int := a % 134217728 * (b / 134217728) + a / 134217728 * (b % 134217728) + a % 134217728 * (b % 134217728) / 134217728
def highl (a b : Int) : Int := a / 134217728 * (b / 134217728) + midl a b / 134217728
def l1 (a b : Int) : Int := midl a b % 134217728
def l2 (a b : Int) : Int := highl a b % 134217728
def l3 (a b : Int) : Int := highl a b / 134217728

theorem split4 (x1 x0 y1 y0 : Int) : (134217728 * x1 + x0) * (134217728 * y1 + y0) = x1 * y1 * 18014398509481984 + (x0 * y1 + x1 * y0) * 134217728 + x0 * y0 := by grind
theorem limbs_val (a b : Int) : l0 a b + l1 a b * 134217728 + l2 a b * 18014398509481984 + l3 a b * 2417851639229258349412352 = a * b := by
  have ea := Int.mul_ediv_add_emod a 134217728
  have eb := Int.mul_ediv_add_emod b 134217728
  have e : a * b = a / 134217728 * (b / 134217728) * 18014398509481984 + (a % 134217728 * (b / 134217728) + a / 134217728 * (b % 134217728)) * 134217728 + a % 134217728 * (b % 134217728) := by
    have es := split4 (a / 134217728) (a % 134217728) (b / 134217728) (b % 134217728)
    rw [ea, eb] at es
    exact es
  rw [e]
  unfold l0 l1 l2 l3 highl midl
  generalize a % 134217728 * (b % 134217728) = p at *
  generalize a % 134217728 * (b / 134217728) = q at *
  generalize a / 134217728 * (b % 134217728) = r at *
  generalize a / 134217728 * (b / 134217728) = s at *
  omega

def lessB (a0 a1 a2 a3 b0 b1 b2 b3 : Int) : Bool := if a3 ≠ b3 then decide (a3 < b3) else if a2 ≠ b2 then decide (a2 < b2) else if a1 ≠ b1 then decide (a1 < b1) else decide (a0 < b0)

theorem lessB_iff (a b c d : Int) : lessB (l0 a b) (l1 a b) (l2 a b) (l3 a b) (l0 c d) (l1 c d) (l2 c d) (l3 c d) = decide (a * b < c * d) := by
  have e1 := limbs_val a b
  have e2 := limbs_val c d
  have h0 : 0 ≤ l0 a b ∧ l0 a b < 134217728 := by unfold l0; omega
  have h1 : 0 ≤ l1 a b ∧ l1 a b < 134217728 := by unfold l1; omega
  have h2 : 0 ≤ l2 a b ∧ l2 a b < 134217728 := by unfold l2; omega
  have k0 : 0 ≤ l0 c d ∧ l0 c d < 134217728 := by unfold l0; omega
  have k1 : 0 ≤ l1 c d ∧ l1 c d < 134217728 := by unfold l1; omega
  have k2 : 0 ≤ l2 c d ∧ l2 c d < 134217728 := by unfold l2; omega
  rw [← e1, ← e2]
  clear e1 e2
  generalize l0 a b = x0 at *
  generalize l1 a b = x1 at *
  generalize l2 a b = x2 at *
  generalize l3 a b = x3 at *
  generalize l0 c d = y0 at *
  generalize l1 c d = y1 at *
  generalize l2 c d = y2 at *
  generalize l3 c d = y3 at *
  unfold lessB
  rw [Bool.eq_iff_iff]
  split
  · simp only [decide_eq_true_eq]; omega
  · split
    · simp only [decide_eq_true_eq]; omega
    · split
      · simp only [decide_eq_true_eq]; omega
      · simp only [decide_eq_true_eq]; omega

theorem limbs_eq (a b c d : Int) : (l0 a b = l0 c d ∧ l1 a b = l1 c d ∧ l2 a b = l2 c d ∧ l3 a b = l3 c d) ↔ a * b = c * d := by
  have e1 := limbs_val a b
  have e2 := limbs_val c d
  have h0 : 0 ≤ l0 a b ∧ l0 a b < 134217728 := by unfold l0; omega
  have h1 : 0 ≤ l1 a b ∧ l1 a b < 134217728 := by unfold l1; omega
  have h2 : 0 ≤ l2 a b ∧ l2 a b < 134217728 := by unfold l2; omega
  have k0 : 0 ≤ l0 c d ∧ l0 c d < 134217728 := by unfold l0; omega
  have k1 : 0 ≤ l1 c d ∧ l1 c d < 134217728 := by unfold l1; omega
  have k2 : 0 ≤ l2 c d ∧ l2 c d < 134217728 := by unfold l2; omega
  rw [← e1, ← e2]
  omega

/-! ### Times -/
theorem isT_iff (t : Int) : isT t = true ↔ t = -1 ∨ 0 ≤ t ∧ t ≤ 9007199254740991 := by unfold isT; simp [isN_iff]
theorem tm_of {t : Int} (h : isT t = true) : tm t = t := by
  rw [isT_iff] at h
  unfold tm isN
  split
  · rfl
  · simp at *; omega
theorem isT_neg : isT (-1) = true := by decide

theorem ends_time (t d : Int) : isT (ends t d) = true := by
  unfold ends
  split
  · rw [isT_iff]; exact .inr ⟨add_lo _ _, add_hi _ _⟩
  · decide

/-- All that the law on times asks. -/
theorem times (A B d0 d1 : Int) (hA : isT A = true) (hB : isT B = true) :
    (earlier A B = A ∧ later A B = B ∨ A ≠ B ∧ earlier A B = B ∧ later A B = A) ∧ (earlier A B = -1 → later A B = -1) ∧ (later A B = -1 ∨ earlier A B ≤ later A B) ∧
    earlier (ends (earlier A B) d0) (ends (later A B) d0) = ends (earlier A B) d0 ∧
    earlier (ends (earlier A B) d0) (ends (earlier A B) (add d0 d1)) = ends (earlier A B) d0 ∧ earlier (earlier A B) (ends (earlier A B) d0) = earlier A B ∧
    ((ends (earlier A B) d0 == -1) = (earlier A B == -1)) := by
  have hx : isT (earlier A B) = true ∧ (earlier A B = A ∧ later A B = B ∨ A ≠ B ∧ earlier A B = B ∧ later A B = A) ∧ (earlier A B = -1 → later A B = -1) ∧ (later A B = -1 ∨ earlier A B ≤ later A B) ∧ isT (later A B) = true := by
    unfold earlier later
    rw [tm_of hA, tm_of hB]
    rw [isT_iff] at hA hB
    simp only [isT_iff]
    split <;> split <;> omega
  obtain ⟨hx, h1, h2, h3, hy⟩ := hx
  refine ⟨h1, h2, h3, ?_⟩
  clear h1 hA hB
  generalize earlier A B = x at *
  generalize later A B = y at *
  have hF := ends_time x d0
  have hT := ends_time y d0
  have hM := ends_time x (add d0 d1)
  have e1 : ∀ t d, isT t = true → (t = -1 ∧ ends t d = -1) ∨ (t ≠ -1 ∧ ends t d = add t d ∧ num t = t) := by
    intro t d ht
    rw [isT_iff] at ht
    unfold ends
    by_cases h : t = -1
    · subst h; exact .inl ⟨rfl, rfl⟩
    · refine .inr ⟨h, ?_, num_id (by omega) (by omega)⟩
      rw [if_pos (by rw [isN_iff]; omega)]
  unfold earlier
  rw [tm_of hF, tm_of hT, tm_of hM, tm_of hx]
  have n0 := num_lo d0
  have n1 := num_lo d1
  rcases e1 x d0 hx with ⟨hx1, f1⟩ | ⟨hx1, f1, gx⟩
  · have hy1 := h2 hx1
    subst hx1 hy1
    rw [f1]
    rcases e1 (-1) (add d0 d1) hx with ⟨_, f2⟩ | ⟨k, _⟩
    · exact ⟨by rw [if_pos (.inl rfl)], by rw [if_pos (.inl rfl), f2], by rw [if_pos (.inl rfl)], rfl⟩
    · exact absurd rfl k
  · have a0 := add_lo x d0
    have a1 := add_lo x (add d0 d1)
    have le1 : x ≤ add x d0 := by
      rw [isT_iff] at hx
      unfold add; rw [gx]; unfold num at *; omega
    have le2 : add x d0 ≤ add x (add d0 d1) := by unfold add num at *; omega
    rcases e1 x (add d0 d1) hx with ⟨k, _⟩ | ⟨_, f2, _⟩
    · exact absurd k hx1
    rw [f1, f2]
    have nx : ¬ add x d0 = -1 := by omega
    refine ⟨?_, ?_, ?_, ?_⟩
    · rcases e1 y d0 hy with ⟨hy1, f3⟩ | ⟨hy1, f3, gy⟩
      · rw [f3, if_neg (by omega)]
      · have le3 : add x d0 ≤ add y d0 := by
          have : x ≤ y := by omega
          unfold add; rw [gx, gy]; unfold num at *; omega
        rw [f3, if_neg (by omega)]
    · rw [if_neg (by omega)]
    · rw [if_neg (by omega)]
    · rw [beq_eq_false_iff_ne.2 nx, beq_eq_false_iff_ne.2 hx1]

end Sat
end Go.Proofs.Ytniiemmgcjkphaa
