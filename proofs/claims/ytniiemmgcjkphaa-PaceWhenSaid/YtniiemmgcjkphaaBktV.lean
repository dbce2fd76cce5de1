/-
  Layer 13, plain: the time by halves is the time that is reckoned.
-/
import Derived.Test.YtniiemmgcjkphaaBktP
namespace Go.Proofs.Ytniiemmgcjkphaa
namespace Bkt

theorem fillS_of {s : St} {t num den : Int} (hm : may num den = true) (h0 : 0 ≤ s.t) (ht : s.t ≤ t) (t1 : t ≤ 9007199254740991) : fillS s t num den = fill s t num den := by
  have e : fillE s t num den = 0 := by
    unfold fillE
    rw [hm, (Sat.isN_iff t).2 ⟨by omega, t1⟩]
    rw [if_pos (by rfl), if_neg (by omega)]
  unfold fillS
  rw [if_pos e]

theorem when_cases {s : St} (h : wf s) {k num den : Int} (k0 : 0 ≤ k) (kB : k ≤ s.B) (hm : may num den = true) :
    (¬ k ≤ (fillS s 9007199254740991 num den).n ∧ when_ s k num den = -1) ∨
    (k ≤ (fillS s 9007199254740991 num den).n ∧ k ≤ s.n ∧ when_ s k num den = s.t) ∨
    (k ≤ (fillS s 9007199254740991 num den).n ∧ s.n < k ∧ ∃ W, when_ s k num den = W ∧ s.t ≤ W ∧ W ≤ 9007199254740991 ∧ ∀ t, s.t ≤ t → t ≤ 9007199254740991 → (k ≤ (fillS s t num den).n ↔ W ≤ t)) := by
  have t0 := h.t0
  have t1 := h.t1
  obtain ⟨m0, m1, m2, m3⟩ := (may_iff num den).1 hm
  have hg : ¬ (k < 0 ∨ s.B < k ∨ may num den = false) := by rw [hm]; simp; omega
  rw [fillS_of hm t0 t1 (by omega)]
  by_cases hk : k ≤ s.n
  · refine .inr (.inl ⟨by have := fill_lo h t1 m0 m2; omega, hk, ?_⟩)
    unfold when_
    rw [if_neg hg, if_pos hk]
  · have hi := fun t => has_iff h (t := t) kB (by omega : s.n < k) m0 m2
    by_cases hn : num = 0
    · refine .inl ⟨?_, ?_⟩
      · rw [hi]; omega
      · unfold when_
        rw [if_neg hg, if_neg hk, if_pos hn]
    · have hd := dur_lo h (by omega : s.n < k) m2 (show 0 < num by omega)
      by_cases hf : 9007199254740991 - s.t < dur s k num den
      · refine .inl ⟨?_, ?_⟩
        · rw [hi]; omega
        · unfold when_
          rw [if_neg hg, if_neg hk, if_neg hn, if_pos hf]
      · refine .inr (.inr ⟨?_, by omega, s.t + dur s k num den, ?_, by omega, by omega, fun t h1 h2 => ?_⟩)
        · rw [hi]; omega
        · unfold when_
          rw [if_neg hg, if_neg hk, if_neg hn, if_neg hf]
        · rw [fillS_of hm t0 h1 h2, hi]; omega

end Bkt
end Go.Proofs.Ytniiemmgcjkphaa
