/-
  Layer 13, plain: filled twice is filled at once; what comes in is at most what the rate gives; another rate lets the rest be gone.
-/
import Derived.Test.YtniiemmgcjkphaaBktW
namespace Go.Proofs.Ytniiemmgcjkphaa
namespace Bkt

theorem split_div (D p den : Int) (hd : 1 ≤ den) : (D + p) / den = p / den + (D + p % den) / den ∧ (D + p) % den = (D + p % den) % den := by
  have e := Int.mul_ediv_add_emod p den
  have e2 : D + p = (D + p % den) + p / den * den := by rw [Int.mul_comm (p / den)]; omega
  constructor
  · conv => lhs; rw [e2]
    rw [Int.add_mul_ediv_right _ _ (by omega)]; omega
  · conv => lhs; rw [e2]
    rw [Int.add_mul_emod_self_right]

theorem parts_fill (s : St) {t1 t2 num den : Int} (hb : ¬ s.B ≤ s.n + parts s t1 num den / den) :
    parts (fill s t1 num den) t2 num den = (t2 - t1) * num + parts s t1 num den % den := by
  unfold fill
  rw [if_neg hb]
  simp [parts, kept]
theorem parts_full (s : St) {t1 t2 num den : Int} (hb : s.B ≤ s.n + parts s t1 num den / den) :
    parts (fill s t1 num den) t2 num den = (t2 - t1) * num := by
  unfold fill
  rw [if_pos hb]
  simp [parts, kept]
theorem parts_later (s : St) (t1 t2 num den : Int) : parts s t2 num den = (t2 - t1) * num + parts s t1 num den := by
  have e : (t2 - s.t) * num = (t2 - t1) * num + (t1 - s.t) * num := by rw [← Int.add_mul]; congr 1; omega
  unfold parts; omega

theorem fill_fill {s : St} {t1 t2 num den : Int} (h2 : t1 ≤ t2) (hn : 0 ≤ num) (hd : 1 ≤ den) : fill (fill s t1 num den) t2 num den = fill s t2 num den := by
  have hD := Int.mul_nonneg (show 0 ≤ t2 - t1 by omega) hn
  have e1 := parts_later s t1 t2 num den
  obtain ⟨d1, d2⟩ := split_div ((t2 - t1) * num) (parts s t1 num den) den hd
  rw [← e1] at d1 d2
  by_cases hb : s.B ≤ s.n + parts s t1 num den / den
  · have ep := parts_full s (t2 := t2) hb
    have q := Int.ediv_nonneg hD (show 0 ≤ den by omega)
    have q2 : parts s t1 num den / den ≤ parts s t2 num den / den := Int.ediv_le_ediv (by omega) (by omega)
    have ef : fill s t1 num den = ⟨s.B, s.B, 0, t1, num, den⟩ := by unfold fill; rw [if_pos hb]
    have er : fill s t2 num den = ⟨s.B, s.B, 0, t2, num, den⟩ := by unfold fill; rw [if_pos (by omega)]
    rw [er, show fill (fill s t1 num den) t2 num den = if (fill s t1 num den).B ≤ (fill s t1 num den).n + parts (fill s t1 num den) t2 num den / den then ⟨(fill s t1 num den).B, (fill s t1 num den).B, 0, t2, num, den⟩ else ⟨(fill s t1 num den).B, (fill s t1 num den).n + parts (fill s t1 num den) t2 num den / den, parts (fill s t1 num den) t2 num den % den, t2, num, den⟩ from rfl]
    rw [ep, ef]
    rw [if_pos (by simp only; omega)]
  · have ep := parts_fill s (t2 := t2) hb
    have ef : fill s t1 num den = ⟨s.B, s.n + parts s t1 num den / den, parts s t1 num den % den, t1, num, den⟩ := by unfold fill; rw [if_neg hb]
    rw [show fill (fill s t1 num den) t2 num den = if (fill s t1 num den).B ≤ (fill s t1 num den).n + parts (fill s t1 num den) t2 num den / den then ⟨(fill s t1 num den).B, (fill s t1 num den).B, 0, t2, num, den⟩ else ⟨(fill s t1 num den).B, (fill s t1 num den).n + parts (fill s t1 num den) t2 num den / den, parts (fill s t1 num den) t2 num den % den, t2, num, den⟩ from rfl]
    rw [ep, ef]
    simp only
    unfold fill
    rw [d1, d2]
    by_cases hc : s.B ≤ s.n + (parts s t1 num den / den + ((t2 - t1) * num + parts s t1 num den % den) / den)
    · rw [if_pos hc, if_pos (by omega)]
    · rw [if_neg hc, if_neg (by omega), Int.add_assoc]

/-- A rate that the bucket has not had: the rest counts nothing. -/
theorem kept_new {s : St} {num den : Int} (h : ¬ (num = s.num ∧ den = s.den)) : kept s num den = 0 := by unfold kept; rw [if_neg h]
theorem kept_same (s : St) : kept s s.num s.den = s.r := by simp [kept]

/-- What comes in. -/
theorem fill_up {s : St} (h : wf s) {t num den : Int} (hd : 1 ≤ den) : (fill s t num den).n ≤ s.B ∧ (fill s t num den).n ≤ s.n + ((t - s.t) * num + den - 1) / den := by
  have k1 := kept_hi h (num := num) hd
  rw [fill_n]
  have : parts s t num den / den ≤ ((t - s.t) * num + den - 1) / den := Int.ediv_le_ediv (by omega) (by unfold parts; omega)
  omega
theorem fill_lo {s : St} (h : wf s) {t num den : Int} (ht : s.t ≤ t) (hn : 0 ≤ num) (hd : 1 ≤ den) : s.n ≤ (fill s t num den).n := by
  have := Int.ediv_nonneg (parts_lo h ht hn (den := den)) (show 0 ≤ den by omega)
  have := h.n1
  rw [fill_n]; omega
theorem fill_t (s : St) (t num den : Int) : (fill s t num den).t = t := by unfold fill; split <;> rfl
theorem fill_B (s : St) (t num den : Int) : (fill s t num den).B = s.B := by unfold fill; split <;> rfl
theorem fill_rate (s : St) (t num den : Int) : (fill s t num den).num = num ∧ (fill s t num den).den = den := by unfold fill; split <;> exact ⟨rfl, rfl⟩

end Bkt
end Go.Proofs.Ytniiemmgcjkphaa
