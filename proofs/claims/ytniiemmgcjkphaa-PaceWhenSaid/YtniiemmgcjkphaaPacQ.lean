/-
  Layer 14: PaceWhen, plainly: what When tells of a pacer that has played.
-/
import Derived.Test.YtniiemmgcjkphaaPacK
namespace Go.Proofs.Ytniiemmgcjkphaa
open Go.RowKit Go.Sort
namespace Pac

theorem sendE_iff {s : St} {t k : Int} (h : wf s) (ht : s.b.t ≤ t) (t1 : t ≤ 9007199254740991) (k0 : 1 ≤ k) (k1 : k ≤ 65535) : sendE s t k = 0 ↔ k ≤ (Bkt.fillS s.b t s.num s.den).n := by
  have t0 : 0 ≤ s.b.t := h.b.t0
  have hc : comeE s t = 0 := Bkt.fillE_ok t0 ht t1 h.may
  have hn : (Sat.isN t && isSize k) = true := by rw [Bool.and_eq_true, isSize_iff, Sat.isN_iff]; omega
  unfold sendE
  rw [if_pos hn, if_pos hc]
  have hT : Bkt.takeE (Bkt.fillS s.b t s.num s.den) k = if (Bkt.fillS s.b t s.num s.den).n < k then 5 else 0 := by
    unfold Bkt.takeE
    rw [if_neg (by omega)]
  rw [hT]
  by_cases hk : (Bkt.fillS s.b t s.num s.den).n < k
  · rw [if_pos hk, if_neg (by decide)]
    omega
  · rw [if_neg hk, if_pos rfl]
    omega
theorem fill_cap {s : St} {t : Int} (h : wf s) (ht : s.b.t ≤ t) (t1 : t ≤ 9007199254740991) : (Bkt.fillS s.b t s.num s.den).n ≤ s.b.B := by
  obtain ⟨m0, m1, m2, m3⟩ := (Bkt.may_iff _ _).1 h.may
  rw [Bkt.fillS_of h.may h.b.t0 ht t1, Bkt.fill_n]
  omega
theorem pl_when {B T k : Int} {s : St} {l : List Pc} {p : Pc} {gs : List (Int × Int)} (h : PInv B T s l p gs) (t1 : T ≤ 9007199254740991) (k0 : 1 ≤ k) (k1 : k ≤ 3000) :
    (when_ s k = -1 ∧ sendE s T k ≠ 0 ∧ sendE s 9007199254740991 k ≠ 0 ∧ (B < k ∨ gs ≠ [])) ∨
    (∃ W, when_ s k = W ∧ 0 ≤ W ∧ W ≤ 9007199254740991 ∧ (∀ t, W ≤ t → T ≤ t → t ≤ 9007199254740991 → sendE s t k = 0) ∧ (∀ t, T ≤ t → t < W → sendE s t k ≠ 0)) := by
  have hw := h.wf
  have hT := h.t0
  have t0 : 0 ≤ s.b.t := hw.b.t0
  obtain ⟨m0, m1, m2, m3⟩ := (Bkt.may_iff _ _).1 hw.may
  have hs : isSize k = true := by rw [isSize_iff]; omega
  have hi := fun t (a : s.b.t ≤ t) (b : t ≤ 9007199254740991) => sendE_iff hw a b k0 (show k ≤ 65535 by omega)
  have ew : when_ s k = Bkt.when_ s.b k s.num s.den := by unfold when_; rw [if_pos hs]
  rw [ew]
  by_cases hB : B < k
  · left
    have hcap := fun t (a : s.b.t ≤ t) (b : t ≤ 9007199254740991) => fill_cap hw a b
    rw [h.hB] at hcap
    refine ⟨?_, fun hh => ?_, fun hh => ?_, .inl hB⟩
    · unfold Bkt.when_
      rw [if_pos (.inr (.inl (by rw [h.hB]; exact hB)))]
    · have h1 := (hi T hT t1).1 hh
      have h2 := hcap T hT t1
      omega
    · have h1 := (hi 9007199254740991 (by omega) (by omega)).1 hh
      have h2 := hcap 9007199254740991 (by omega) (by omega)
      omega
  · have hlow : ∀ t, s.b.t ≤ t → t ≤ 9007199254740991 → s.b.n ≤ (Bkt.fillS s.b t s.num s.den).n := fun t a b => by
      rw [Bkt.fillS_of hw.may t0 a b]
      exact Bkt.fill_lo hw.b a m0 m2
    rcases Bkt.when_cases hw.b (k := k) (by omega) (by rw [h.hB]; omega) hw.may with ⟨ha, hr⟩ | ⟨ha, hk, hr⟩ | ⟨ha, hk, V, hr, v0, v1, hv⟩
    · left
      have hkn : s.b.n < k := by
        have := hlow 9007199254740991 (by omega) (by omega)
        omega
      refine ⟨hr, fun hh => ha ?_, fun hh => ha ((hi _ (by omega) (by omega)).1 hh), .inr (fun hg => ?_)⟩
      · have h1 := (hi T hT t1).1 hh
        rw [Bkt.fillS_of hw.may t0 hT t1, Bkt.has_iff hw.b (by rw [h.hB]; omega) hkn m0 m2] at h1
        rw [Bkt.fillS_of hw.may t0 (by omega) (by omega), Bkt.has_iff hw.b (by rw [h.hB]; omega) hkn m0 m2]
        omega
      · have := h.full hg
        omega
    · right
      refine ⟨_, hr, t0, by omega, fun t a b c => (hi t (by omega) c).2 (Int.le_trans hk (hlow t (by omega) c)), fun t a b => by omega⟩
    · right
      exact ⟨V, hr, by omega, v1, fun t a b c => (hi t (by omega) c).2 ((hv t (by omega) c).2 a), fun t a b hh => by
        have h1 := (hv t (by omega) (by omega)).1 ((hi t (by omega) (by omega)).1 hh)
        omega⟩
end Pac
end Go.Proofs.Ytniiemmgcjkphaa
