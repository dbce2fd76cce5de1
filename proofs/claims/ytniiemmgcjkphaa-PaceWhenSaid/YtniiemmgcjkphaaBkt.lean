/-
  Layer 13, plain: a token bucket as numbers; what the code reckons is what the definition says.
-/
import Derived.Test.YtniiemmgcjkphaaSatP
namespace Go.Proofs.Ytniiemmgcjkphaa
namespace Bkt

structure St where
  B : Int
  n : Int
  r : Int
  t : Int
  num : Int
  den : Int

def may (num den : Int) : Bool := decide (0 ≤ num ∧ num ≤ 8796093022208 ∧ 1 ≤ den ∧ den ≤ 9007199254740991)
/-- The rest that a rate takes over. -/
def kept (s : St) (num den : Int) : Int := if num = s.num ∧ den = s.den then s.r else 0
/-- Parts of a token till t. -/
def parts (s : St) (t num den : Int) : Int := (t - s.t) * num + kept s num den
def fill (s : St) (t num den : Int) : St :=
  if s.B ≤ s.n + parts s t num den / den then ⟨s.B, s.B, 0, t, num, den⟩ else ⟨s.B, s.n + parts s t num den / den, parts s t num den % den, t, num, den⟩
def fillE (s : St) (t num den : Int) : Int := if Sat.isN t && may num den then (if t < s.t then 210 else 0) else 2
def fillS (s : St) (t num den : Int) : St := if fillE s t num den = 0 then fill s t num den else s
def takeE (s : St) (k : Int) : Int := if k < 0 then 2 else if s.n < k then 5 else 0
def takeS (s : St) (k : Int) : St := if takeE s k = 0 then { s with n := s.n - k } else s
/-- How long till k tokens. -/
def dur (s : St) (k num den : Int) : Int := ((k - s.n) * den - kept s num den + (num - 1)) / num
def when_ (s : St) (k num den : Int) : Int :=
  if k < 0 ∨ s.B < k ∨ may num den = false then -1 else if k ≤ s.n then s.t else if num = 0 then -1 else if 9007199254740991 - s.t < dur s k num den then -1 else s.t + dur s k num den

structure wf (s : St) : Prop where
  B0 : 1 ≤ s.B
  B1 : s.B ≤ 1073741824
  n0 : 0 ≤ s.n
  n1 : s.n ≤ s.B
  r0 : 0 ≤ s.r
  r1 : s.r = 0 ∨ s.r < s.den
  t0 : 0 ≤ s.t
  t1 : s.t ≤ 9007199254740991

theorem may_iff (num den : Int) : may num den = true ↔ 0 ≤ num ∧ num ≤ 8796093022208 ∧ 1 ≤ den ∧ den ≤ 9007199254740991 := by unfold may; simp

theorem kept_lo {s : St} (h : wf s) (num den : Int) : 0 ≤ kept s num den := by have := h.r0; unfold kept; split <;> omega
theorem kept_hi {s : St} (h : wf s) {num den : Int} (hd : 1 ≤ den) : kept s num den < den := by
  have := h.r1; have := h.r0
  unfold kept
  split
  · rename_i e; obtain ⟨_, e⟩ := e; omega
  · omega

theorem parts_lo {s : St} (h : wf s) {t num den : Int} (ht : s.t ≤ t) (hn : 0 ≤ num) : 0 ≤ parts s t num den := by
  have := Int.mul_nonneg (show 0 ≤ t - s.t by omega) hn
  have := kept_lo h num den
  unfold parts; omega

theorem wf_fill {s : St} (h : wf s) {t num den : Int} (ht : s.t ≤ t) (t1 : t ≤ 9007199254740991) (hn : 0 ≤ num) (hd : 1 ≤ den) : wf (fill s t num den) := by
  have h0 := h.t0
  have hp := Int.ediv_nonneg (parts_lo h ht hn (den := den)) (show 0 ≤ den by omega)
  have h2 := Int.emod_nonneg (parts s t num den) (show den ≠ 0 by omega)
  have h3 := Int.emod_lt_of_pos (parts s t num den) (show 0 < den by omega)
  have h4 := h.n0
  unfold fill
  split
  · exact ⟨h.B0, h.B1, by have := h.B0; simp only; omega, by simp, by simp, .inl rfl, by simp only; omega, t1⟩
  · rename_i hb
    exact ⟨h.B0, h.B1, by simp only; omega, by simp only; omega, h2, .inr h3, by simp only; omega, t1⟩

/-- What the code reckons, from the parts of a product. -/
theorem fill_code {s : St} (h : wf s) {t num den q r : Int} (ht : s.t ≤ t) (t1 : t ≤ 9007199254740991) (hn : 0 ≤ num) (n1 : num ≤ 8796093022208) (hd : 1 ≤ den) (d1 : den ≤ 9007199254740991)
    (hq : Sat.quo (t - s.t) num den = q) (hr : Sat.rest (t - s.t) num den = r) :
    0 ≤ r ∧ r < den ∧ (∀ Q R, (if den ≤ r + kept s num den then Sat.add q 1 else q) = Q → (if den ≤ r + kept s num den then r + kept s num den - den else r + kept s num den) = R →
      fill s t num den = if s.B ≤ Sat.add s.n Q then ⟨s.B, s.B, 0, t, num, den⟩ else ⟨s.B, Sat.add s.n Q, R, t, num, den⟩) := by
  have h0 := h.t0
  have hB := h.B1
  have hn0 := h.n0
  have hn1 := h.n1
  have k0 := kept_lo h num den
  have k1 := kept_hi h (num := num) hd
  have hD := Int.mul_nonneg (show 0 ≤ t - s.t by omega) hn
  have nd : Sat.num den = den := Sat.num_id (by omega) (by omega)
  unfold Sat.quo at hq
  unfold Sat.rest at hr
  rw [Sat.num_id (show 0 ≤ t - s.t by omega) (by omega), Sat.num_id hn (by omega), nd, if_neg (show ¬ den = 0 by omega)] at hq
  rw [Sat.num_id (show 0 ≤ t - s.t by omega) (by omega), Sat.num_id hn (by omega), nd, if_neg (show ¬ den = 0 by omega)] at hr
  unfold fill parts
  generalize (t - s.t) * num = D at *
  generalize kept s num den = K at *
  have e1 := Int.mul_ediv_add_emod D den
  have e2 := Int.emod_nonneg D (show den ≠ 0 by omega)
  have e3 := Int.emod_lt_of_pos D (show 0 < den by omega)
  have e4 := Int.ediv_nonneg hD (show 0 ≤ den by omega)
  have f1 : (D + K) / den = D / den + (D % den + K) / den := by
    conv => lhs; rw [show D + K = (D % den + K) + D / den * den by rw [Int.mul_comm (D / den)]; omega]
    rw [Int.add_mul_ediv_right _ _ (by omega)]; omega
  have f2 : (D + K) % den = (D % den + K) % den := by
    rw [show D + K = (D % den + K) + D / den * den by rw [Int.mul_comm (D / den)]; omega, Int.add_mul_emod_self_right]
  rw [f1, f2]
  generalize D / den = Z at *
  generalize D % den = Y at *
  clear e1 hD f1 f2 nd
  refine ⟨by split at hr <;> omega, by split at hr <;> omega, fun Q R hQ hR => ?_⟩
  by_cases hz : 9007199254740991 < Z
  · rw [if_pos hz] at hr
    have hq' : q = 9007199254740991 := by omega
    rw [← hr, if_neg (by omega)] at hQ
    have hc := Int.ediv_nonneg (show 0 ≤ Y + K by omega) (show 0 ≤ den by omega)
    have ha : Sat.add s.n Q = 9007199254740991 := by rw [← hQ, hq']; unfold Sat.add Sat.num; omega
    rw [ha, if_pos (by omega), if_pos (by omega)]
  · rw [if_neg hz] at hr
    have hq' : q = Z := by omega
    subst hr hq'
    by_cases hc : den ≤ Y + K
    · rw [if_pos hc] at hQ hR
      have g1 : (Y + K) / den = 1 := by
        rw [show Y + K = (Y + K - den) + 1 * den by omega, Int.add_mul_ediv_right _ _ (by omega), Int.ediv_eq_zero_of_lt (by omega) (by omega)]; omega
      have g2 : (Y + K) % den = Y + K - den := by
        rw [show Y + K = (Y + K - den) + 1 * den by omega, Int.add_mul_emod_self_right, Int.emod_eq_of_lt (by omega) (by omega)]; omega
      rw [g1, g2, ← hR]
      have ha : Sat.add s.n Q = min (s.n + (q + 1)) 9007199254740991 := by rw [← hQ]; unfold Sat.add Sat.num; omega
      rw [ha]
      clear hQ hR g1 g2 ha
      by_cases hb : s.B ≤ s.n + (q + 1)
      · rw [if_pos hb, if_pos (by omega)]
      · rw [if_neg hb, if_neg (by omega), show min (s.n + (q + 1)) 9007199254740991 = s.n + (q + 1) by omega]
    · rw [if_neg hc] at hQ hR
      have g1 : (Y + K) / den = 0 := Int.ediv_eq_zero_of_lt (by omega) (by omega)
      have g2 : (Y + K) % den = Y + K := Int.emod_eq_of_lt (by omega) (by omega)
      rw [g1, g2, ← hR]
      have ha : Sat.add s.n Q = min (s.n + q) 9007199254740991 := by rw [← hQ]; unfold Sat.add Sat.num; omega
      rw [ha]
      clear hQ hR g1 g2 ha
      by_cases hb : s.B ≤ s.n + q
      · rw [if_pos (by omega), if_pos (by omega)]
      · rw [if_neg (by omega), if_neg (by omega), show min (s.n + q) 9007199254740991 = s.n + q by omega, Int.add_zero]

end Bkt
end Go.Proofs.Ytniiemmgcjkphaa
