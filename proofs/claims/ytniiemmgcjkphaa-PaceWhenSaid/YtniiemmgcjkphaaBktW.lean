/-
  Layer 13, plain: when there are so many tokens.
-/
import Derived.Test.YtniiemmgcjkphaaBkt
namespace Go.Proofs.Ytniiemmgcjkphaa
namespace Bkt

theorem fill_n (s : St) (t num den : Int) : (fill s t num den).n = min s.B (s.n + parts s t num den / den) := by
  unfold fill
  split
  · simp only; omega
  · simp only; omega

theorem dur_pos {s : St} (h : wf s) {k num den : Int} (hn : s.n < k) (hd : 1 ≤ den) : 0 < (k - s.n) * den - kept s num den := by
  have k1 := kept_hi h (num := num) hd
  have : 1 * den ≤ (k - s.n) * den := Int.mul_le_mul_of_nonneg_right (by omega) (by omega)
  omega

theorem has_iff {s : St} (h : wf s) {k t num den : Int} (hk : k ≤ s.B) (hn : s.n < k) (m0 : 0 ≤ num) (hd : 1 ≤ den) :
    k ≤ (fill s t num den).n ↔ 0 < num ∧ dur s k num den ≤ t - s.t := by
  have hp := dur_pos h (num := num) hn hd
  rw [fill_n]
  have e1 : k ≤ min s.B (s.n + parts s t num den / den) ↔ k - s.n ≤ parts s t num den / den := by omega
  rw [e1, Int.le_ediv_iff_mul_le (by omega)]
  unfold parts dur
  by_cases hz : num = 0
  · subst hz
    rw [Int.mul_zero]
    constructor
    · intro; omega
    · rintro ⟨h0, _⟩; omega
  · have h0 : 0 < num := by omega
    have e2 : ((k - s.n) * den - kept s num den + (num - 1)) / num ≤ t - s.t ↔ ((k - s.n) * den - kept s num den + (num - 1)) / num < t - s.t + 1 := by omega
    rw [e2, Int.ediv_lt_iff_lt_mul h0, Int.add_mul, Int.one_mul]
    constructor
    · intro; exact ⟨h0, by omega⟩
    · rintro ⟨_, _⟩; omega

theorem dur_lo {s : St} (h : wf s) {k num den : Int} (hn : s.n < k) (hd : 1 ≤ den) (h0 : 0 < num) : 1 ≤ dur s k num den := by
  have hp := dur_pos h (num := num) hn hd
  unfold dur
  rw [Int.le_ediv_iff_mul_le h0]; omega

theorem words {X K m lo bor lo1 T : Int} (hT : T = 18446744073709551616) (_x0 : 0 ≤ X) (k0 : 0 ≤ K) (k1 : K < T) (_m0 : 0 ≤ m) (_m1 : m < T)
    (h1 : X % T = lo) (h2 : (if lo < K then 1 else 0) = bor) (h3 : (lo - K) % T = lo1) :
    X / T - bor + (lo1 + m) / T = (X - K + m) / T ∧ (lo1 + m) % T = (X - K + m) % T := by
  have hp : 0 < T := by omega
  have e0 := Int.mul_ediv_add_emod X T
  have l0 := Int.emod_nonneg X (show T ≠ 0 by omega)
  have l1 := Int.emod_lt_of_pos X hp
  rw [h1] at e0 l0 l1
  have e1 : lo1 = lo - K + bor * T := by
    rw [← h3, ← h2]
    split
    · rw [show lo - K = (lo - K + T) + (-1) * T by omega, Int.add_mul_emod_self_right, Int.emod_eq_of_lt (by omega) (by omega)]; omega
    · rw [Int.emod_eq_of_lt (by omega) (by omega)]; omega
  have e2 : X - K + m = (lo1 + m) + (X / T - bor) * T := by
    rw [e1, Int.sub_mul, Int.mul_comm (X / T) T]; omega
  rw [e2, Int.add_mul_ediv_right _ _ (by omega), Int.add_mul_emod_self_right]
  exact ⟨by omega, rfl⟩

end Bkt
end Go.Proofs.Ytniiemmgcjkphaa
