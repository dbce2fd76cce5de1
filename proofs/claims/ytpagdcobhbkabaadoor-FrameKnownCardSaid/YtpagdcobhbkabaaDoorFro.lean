/-
  Layer 5, plainly: what is read may be, and is written in as few bytes, or fewer.
-/
import Derived.Test.YtpagdcobhbkabaaDoorFrn
import Derived.Test.YtpagdcobhbkabaaDoorOctH
namespace Go.Proofs.YtpagdcobhbkabaaDoor
namespace Frm
open Oct

theorem numL_good {l : List Int} (hb : Bys l) (he : (numL l).2.e = 0) : isN (numL l).1 = true ∧ Bys (numL l).2.l ∧ (size (numL l).1).toNat + (numL l).2.l.length ≤ l.length := by
  cases l with
  | nil => simp [numL] at he
  | cons b t =>
    have hx := hb.head
    rw [numL_cons] at he ⊢
    by_cases h1 : t.length + 1 < pw b
    · rw [if_pos h1] at he; simp at he
    rw [if_neg h1] at he ⊢
    by_cases h2 : 9007199254740991 < val (b % 64) (t.take (pw b - 1))
    · rw [if_pos h2] at he; simp at he
    rw [if_neg h2]
    have hv := val_lt_pow (a := b % 64) (by omega) (by omega) (hb.tail.take (pw b - 1))
    have hpw : pw b = 1 ∨ pw b = 2 ∨ pw b = 4 ∨ pw b = 8 := by unfold pw; (repeat' split) <;> omega
    have hlt : (t.take (pw b - 1)).length = pw b - 1 := by rw [List.length_take]; omega
    rw [hlt] at hv
    refine ⟨(isN_iff _).2 ⟨hv.1, by omega⟩, hb.tail.drop _, ?_⟩
    simp only [List.length_drop, List.length_cons]
    have hs : (size (val (b % 64) (t.take (pw b - 1)))).toNat ≤ pw b := by
      generalize val (b % 64) (t.take (pw b - 1)) = v at *
      unfold size
      rcases hpw with e | e | e | e <;> rw [e] at hv ⊢ <;> simp at hv <;> (repeat' split) <;> omega
    omega
theorem num_good {s : St} (hb : Bys s.l) (he : (num s).2.e = 0) : s.e = 0 ∧ isN (num s).1 = true ∧ Bys (num s).2.l ∧ (size (num s).1).toNat + (num s).2.l.length ≤ s.l.length := by
  obtain ⟨l, e⟩ := s
  by_cases h : e = 0
  · subst h
    exact ⟨rfl, numL_good hb he⟩
  · rw [num_err l h] at he
    exact absurd he h
theorem len_enc (n : Int) (t : List Int) : (encL (n :: t)).length = (size n).toNat + (encL t).length := by simp [encL, enc_length]
theorem rg_good : ∀ (m : Nat) (hi : Int) (l : List Int) (rs : List (Int × Int)) (r : List Int), Bys l → isN hi = true → rg m hi l = .ok (rs, r) →
    ∃ p t, rs = p :: t ∧ p.2 = hi ∧ t.length = m ∧ rs.all okR = true ∧ gapsOk rs = true ∧ Bys r ∧ (encL (lst rs)).length + r.length ≤ l.length := by
  intro m
  induction m with
  | zero =>
    intro hi l rs r hb hn h
    unfold rg at h
    by_cases h1 : (numL l).2.e = 0
    · rw [if_pos h1] at h
      obtain ⟨a1, a2, a3⟩ := numL_good hb h1
      by_cases h2 : hi < (numL l).1
      · rw [if_pos h2] at h; simp at h
      rw [if_neg h2] at h
      simp only [Except.ok.injEq, Prod.mk.injEq] at h
      obtain ⟨rfl, rfl⟩ := h
      have b1 := (isN_iff _).1 a1
      have b2 := (isN_iff _).1 hn
      refine ⟨_, [], rfl, rfl, rfl, ?_, rfl, a2, ?_⟩
      · simp only [List.all_cons, List.all_nil, Bool.and_true, okR_iff]
        omega
      · rw [show lst [(hi - (numL l).1, hi)] = [hi - (hi - (numL l).1)] from rfl, len_enc, show hi - (hi - (numL l).1) = (numL l).1 by omega]
        simp only [encL, List.length_nil]
        omega
    · rw [if_neg h1] at h; simp at h
  | succ m ih =>
    intro hi l rs r hb hn h
    unfold rg at h
    by_cases h1 : (numL l).2.e = 0
    · rw [if_pos h1] at h
      obtain ⟨a1, a2, a3⟩ := numL_good hb h1
      by_cases h2 : hi < (numL l).1
      · rw [if_pos h2] at h; simp at h
      rw [if_neg h2] at h
      simp only at h
      by_cases h3 : (numL (numL l).2.l).2.e = 0
      · rw [if_pos h3] at h
        obtain ⟨c1, c2, c3⟩ := numL_good a2 h3
        by_cases h4 : hi - ((numL l).1 + 2 + (numL (numL l).2.l).1) < 0
        · rw [if_pos h4] at h; simp at h
        rw [if_neg h4] at h
        have b1 := (isN_iff _).1 a1
        have b2 := (isN_iff _).1 hn
        have b3 := (isN_iff _).1 c1
        cases hr : rg m (hi - ((numL l).1 + 2 + (numL (numL l).2.l).1)) (numL (numL l).2.l).2.l with
        | error e => rw [hr] at h; simp at h
        | ok x =>
          obtain ⟨rs2, r2⟩ := x
          rw [hr] at h
          simp only [Except.ok.injEq, Prod.mk.injEq] at h
          obtain ⟨rfl, rfl⟩ := h
          obtain ⟨p, t, rfl, g1, g2, g3, g4, g5, g6⟩ := ih _ _ _ _ c2 ((isN_iff _).2 (by omega)) hr
          refine ⟨_, _, rfl, rfl, by simp [g2], ?_, ?_, g5, ?_⟩
          · rw [List.all_cons, Bool.and_eq_true, okR_iff]
            exact ⟨by simp only; omega, g3⟩
          · unfold gapsOk
            rw [Bool.and_eq_true, decide_eq_true_eq]
            exact ⟨by rw [g1]; simp only; omega, g4⟩
          · rw [lst_cons2, len_enc, len_enc, g1]
            simp only
            rw [show hi - (hi - (numL l).1) = (numL l).1 by omega, show hi - (numL l).1 - (hi - ((numL l).1 + 2 + (numL (numL l).2.l).1)) - 2 = (numL (numL l).2.l).1 by omega]
            omega
      · rw [if_neg h3] at h; simp at h
    · rw [if_neg h1] at h; simp at h
theorem body_good {mk : Bool} {l r : List Int} {a : Ak} (hb : Bys l) (h : body mk l = .ok (a, r)) : chk a = true ∧ a.mkd = mk ∧ Bys r ∧ (encL (nums a)).length + r.length ≤ l.length := by
  unfold body at h
  simp only at h
  by_cases h1 : (num (num (numL l).2).2).2.e = 0
  · rw [if_pos h1] at h
    have hbl : Bys (numL l).2.l := by
      by_cases h0 : (numL l).2.e = 0
      · exact (numL_good hb h0).2.1
      · exfalso
        have e1 : num (numL l).2 = (0, (numL l).2) := by unfold num; rw [if_neg h0]
        rw [e1, e1] at h1
        exact h0 h1
    have hbd : (num (numL l).2).2.e = 0 := by
      by_cases h0 : (num (numL l).2).2.e = 0
      · exact h0
      · exfalso
        have e1 : num (num (numL l).2).2 = (0, (num (numL l).2).2) := by generalize (num (numL l).2).2 = s at *; unfold num; rw [if_neg h0]
        rw [e1] at h1
        exact h0 h1
    obtain ⟨k0, k1, k2, k3⟩ := num_good hbl hbd
    obtain ⟨j1, j2, j3⟩ := numL_good hb k0
    obtain ⟨_, i1, i2, i3⟩ := num_good k2 h1
    by_cases h2 : 256 ≤ (num (num (numL l).2).2).1
    · rw [if_pos h2] at h; simp at h
    rw [if_neg h2] at h
    have im := (isN_iff _).1 i1
    cases hr : rg (num (num (numL l).2).2).1.toNat (numL l).1 (num (num (numL l).2).2).2.l with
    | error e => rw [hr] at h; simp at h
    | ok x =>
      obtain ⟨rs, r2⟩ := x
      rw [hr] at h
      simp only at h
      obtain ⟨p, t, rfl, g1, g2, g3, g4, g5, g6⟩ := rg_good _ _ _ _ _ i2 j1 hr
      have hlen : (((p :: t).length : Int) - 1) = (num (num (numL l).2).2).1 := by rw [List.length_cons, g2]; omega
      cases mk with
      | false =>
        simp only [Bool.false_eq_true, ↓reduceIte, Except.ok.injEq, Prod.mk.injEq] at h
        obtain ⟨rfl, rfl⟩ := h
        refine ⟨?_, rfl, g5, ?_⟩
        · unfold chk
          simp only [Bool.and_eq_true, decide_eq_true_eq, okE, Bool.or_eq_true]
          refine ⟨⟨⟨⟨⟨⟨⟨?_, ?_⟩, k1⟩, g3⟩, g4⟩, ?_⟩, ?_⟩, ?_⟩
          · simp
          · simp [g2]; omega
          all_goals exact ⟨by decide, .inr trivial⟩
        · unfold nums
          simp only [List.headD_cons, Bool.false_eq_true, ↓reduceIte, List.append_nil]
          rw [len_enc, len_enc, len_enc, g1, hlen]
          omega
      | true =>
        simp only [↓reduceIte] at h
        by_cases h3 : (num (num (numL r2).2).2).2.e = 0
        · rw [if_pos h3] at h
          simp only [Except.ok.injEq, Prod.mk.injEq] at h
          obtain ⟨rfl, rfl⟩ := h
          have hbl2 : Bys (numL r2).2.l := by
            by_cases h0 : (numL r2).2.e = 0
            · exact (numL_good g5 h0).2.1
            · exfalso
              have e1 : num (numL r2).2 = (0, (numL r2).2) := by unfold num; rw [if_neg h0]
              rw [e1, e1] at h3
              exact h0 h3
          have hbd2 : (num (numL r2).2).2.e = 0 := by
            by_cases h0 : (num (numL r2).2).2.e = 0
            · exact h0
            · exfalso
              have e1 : num (num (numL r2).2).2 = (0, (num (numL r2).2).2) := by generalize (num (numL r2).2).2 = s at *; unfold num; rw [if_neg h0]
              rw [e1] at h3
              exact h0 h3
          obtain ⟨u0, u1, u2, u3⟩ := num_good hbl2 hbd2
          obtain ⟨v1, v2, v3⟩ := numL_good g5 u0
          obtain ⟨_, w1, w2, w3⟩ := num_good u2 h3
          refine ⟨?_, rfl, w2, ?_⟩
          · unfold chk
            simp only [Bool.and_eq_true, decide_eq_true_eq, okE, Bool.or_eq_true]
            refine ⟨⟨⟨⟨⟨⟨⟨?_, ?_⟩, k1⟩, g3⟩, g4⟩, ⟨v1, .inl trivial⟩⟩, ⟨u1, .inl trivial⟩⟩, ⟨w1, .inl trivial⟩⟩
            · simp
            · simp [g2]; omega
          · unfold nums
            simp only [List.headD_cons, ↓reduceIte]
            rw [len_enc, len_enc, len_enc, g1, hlen, encL_app, List.length_append, len_enc, len_enc, len_enc]
            simp only [encL, List.length_nil]
            omega
        · rw [if_neg h3] at h; simp at h
  · rw [if_neg h1] at h; simp at h
theorem rg_err : ∀ (m : Nat) (hi : Int) (l : List Int), rg m hi l ≠ .error 0 := by
  intro m
  induction m with
  | zero =>
    intro hi l h
    unfold rg at h
    by_cases h1 : (numL l).2.e = 0
    · rw [if_pos h1] at h
      by_cases h2 : hi < (numL l).1
      · rw [if_pos h2] at h; simp at h
      · rw [if_neg h2] at h; simp at h
    · rw [if_neg h1] at h
      injection h with h
      exact h1 h
  | succ m ih =>
    intro hi l h
    unfold rg at h
    by_cases h1 : (numL l).2.e = 0
    · rw [if_pos h1] at h
      by_cases h2 : hi < (numL l).1
      · rw [if_pos h2] at h; simp at h
      rw [if_neg h2] at h
      simp only at h
      by_cases h3 : (numL (numL l).2.l).2.e = 0
      · rw [if_pos h3] at h
        by_cases h4 : hi - ((numL l).1 + 2 + (numL (numL l).2.l).1) < 0
        · rw [if_pos h4] at h; simp at h
        rw [if_neg h4] at h
        have := ih (hi - ((numL l).1 + 2 + (numL (numL l).2.l).1)) (numL (numL l).2.l).2.l
        cases hr : rg m (hi - ((numL l).1 + 2 + (numL (numL l).2.l).1)) (numL (numL l).2.l).2.l with
        | error e => rw [hr] at h this; simp only [Except.error.injEq] at h; subst h; exact this rfl
        | ok x => rw [hr] at h; simp at h
      · rw [if_neg h3] at h
        injection h with h
        exact h3 h
    · rw [if_neg h1] at h
      injection h with h
      exact h1 h
theorem body_err (mk : Bool) (l : List Int) : body mk l ≠ .error 0 := by
  intro h
  unfold body at h
  simp only at h
  by_cases h1 : (num (num (numL l).2).2).2.e = 0
  · rw [if_pos h1] at h
    by_cases h2 : 256 ≤ (num (num (numL l).2).2).1
    · rw [if_pos h2] at h; simp at h
    rw [if_neg h2] at h
    have := rg_err (num (num (numL l).2).2).1.toNat (numL l).1 (num (num (numL l).2).2).2.l
    cases hr : rg (num (num (numL l).2).2).1.toNat (numL l).1 (num (num (numL l).2).2).2.l with
    | error e => rw [hr] at h this; simp only [Except.error.injEq] at h; subst h; exact this rfl
    | ok x =>
      rw [hr] at h
      simp only at h
      cases mk with
      | false => simp at h
      | true =>
        simp only [↓reduceIte] at h
        by_cases h3 : (num (num (numL x.2).2).2).2.e = 0
        · rw [if_pos h3] at h; simp at h
        · rw [if_neg h3] at h
          injection h with h
          exact h3 h
  · rw [if_neg h1] at h
    injection h with h
    exact h1 h
theorem nxt_cons (t : Int) (l : List Int) : nxt (t :: l) = if t = 2 ∨ t = 3 then (match body (decide (t = 3)) l with | .error e => (zero, 0, e) | .ok (a, r) => (a, ((t :: l).length : Int) - r.length, 0)) else (zero, 0, 50) := rfl
theorem nxt_good {b : List Int} (hb : Bys b) (h : (nxt b).2.2 = 0) : chk (nxt b).1 = true ∧ 1 ≤ (nxt b).2.1 ∧ (nxt b).2.1 ≤ b.length ∧ ((bytes (nxt b).1).1.length : Int) ≤ (nxt b).2.1 := by
  cases b with
  | nil => simp [nxt] at h
  | cons t l =>
    rw [nxt_cons] at h ⊢
    by_cases ht : t = 2 ∨ t = 3
    · rw [if_pos ht] at h ⊢
      cases hr : body (decide (t = 3)) l with
      | error e =>
        rw [hr] at h
        exfalso
        simp only at h
        subst h
        exact absurd hr (body_err _ _)
      | ok x =>
        obtain ⟨a, r⟩ := x
        simp only [hr] at h ⊢
        obtain ⟨g1, g2, g3, g4⟩ := body_good hb.tail hr
        unfold bytes
        rw [if_pos g1]
        simp only [List.length_cons]
        refine ⟨g1, by omega, by omega, by omega⟩
    · rw [if_neg ht] at h; simp at h
end Frm
end Go.Proofs.YtpagdcobhbkabaaDoor
