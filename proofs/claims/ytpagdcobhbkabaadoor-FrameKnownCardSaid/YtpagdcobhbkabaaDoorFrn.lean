/-
  Layer 5, plainly: bytes that are cut; what is read is written in as few bytes, or fewer.
-/
import Derived.Test.YtpagdcobhbkabaaDoorFrm
namespace Go.Proofs.YtpagdcobhbkabaaDoor
namespace Frm
open Oct

theorem take_in {n : Int} {m : Nat} (h : isN n = true) (r : List Int) (hm : (size n).toNat ≤ m) : numL ((enc n (size n).toNat ++ r).take m) = (n, ⟨r.take (m - (size n).toNat), 0⟩) := by
  have : (enc n (size n).toNat ++ r).take m = enc n (size n).toNat ++ r.take (m - (size n).toNat) := by
    rw [List.take_append, enc_length, List.take_of_length_le (by rw [enc_length]; exact hm)]
  rw [this]
  exact read1 h _
theorem take_off {n : Int} {m : Nat} (h : isN n = true) (r : List Int) (hm : m < (size n).toNat) : ∃ l, numL ((enc n (size n).toNat ++ r).take m) = (0, ⟨l, 3⟩) := by
  obtain ⟨h0, h1⟩ := (isN_iff n).1 h
  have : (enc n (size n).toNat ++ r).take m = (enc n (size n).toNat).take m := by
    rw [List.take_append_of_le_length (by rw [enc_length]; omega)]
  rw [this]
  exact numL_cut (fits_size h0 h1).1 hm
theorem rg_in (t : List (Int × Int)) (p : Int × Int) (r : List Int) {m : Nat} (h : (p :: t).all okR = true) (hg : gapsOk (p :: t) = true) (hm : (encL (lst (p :: t))).length ≤ m) :
    rg t.length p.2 ((encL (lst (p :: t)) ++ r).take m) = .ok (p :: t, r.take (m - (encL (lst (p :: t))).length)) := by
  rw [List.take_append, List.take_of_length_le hm]
  exact rg_enc t p _ h hg
theorem rg_cut : ∀ (t : List (Int × Int)) (p : Int × Int) (r : List Int) (m : Nat), (p :: t).all okR = true → gapsOk (p :: t) = true → m < (encL (lst (p :: t))).length → rg t.length p.2 ((encL (lst (p :: t)) ++ r).take m) = .error 3
  | [], p, r, m, h, _, hm => by
    have hp := (okR_iff p).1 (List.all_eq_true.1 h p (by simp))
    have hn : isN (p.2 - p.1) = true := (isN_iff _).2 (by omega)
    have e : encL (lst [p]) = enc (p.2 - p.1) (size (p.2 - p.1)).toNat := by simp [lst, encL]
    rw [e] at hm ⊢
    rw [enc_length] at hm
    obtain ⟨l, hl⟩ := take_off hn r hm
    unfold rg
    rw [hl]
    rw [if_neg (by simp)]
  | q :: t, p, r, m, h, hg, hm => by
    have hp := (okR_iff p).1 (List.all_eq_true.1 h p (by simp))
    have hq := (okR_iff q).1 (List.all_eq_true.1 h q (by simp))
    have hg1 : q.2 ≤ p.1 - 2 := by
      simp only [gapsOk, Bool.and_eq_true, decide_eq_true_eq] at hg
      exact hg.1
    have hg2 : gapsOk (q :: t) = true := by
      simp only [gapsOk, Bool.and_eq_true] at hg
      exact hg.2
    have hall : (q :: t).all okR = true := by simp only [List.all_cons, Bool.and_eq_true] at h ⊢; exact h.2
    have n1 : isN (p.2 - p.1) = true := (isN_iff _).2 (by omega)
    have n2 : isN (p.1 - q.2 - 2) = true := (isN_iff _).2 (by omega)
    have e : encL (lst (p :: q :: t)) = enc (p.2 - p.1) (size (p.2 - p.1)).toNat ++ (enc (p.1 - q.2 - 2) (size (p.1 - q.2 - 2)).toNat ++ encL (lst (q :: t))) := by simp [lst_cons2, encL]
    rw [e] at hm ⊢
    simp only [List.length_append, enc_length] at hm
    rw [List.append_assoc, List.append_assoc]
    by_cases c1 : m < (size (p.2 - p.1)).toNat
    · obtain ⟨l, hl⟩ := take_off n1 (enc (p.1 - q.2 - 2) (size (p.1 - q.2 - 2)).toNat ++ (encL (lst (q :: t)) ++ r)) c1
      unfold rg
      rw [hl, if_neg (by simp)]
    · unfold rg
      rw [take_in n1 _ (by omega)]
      simp only [List.length_cons]
      rw [if_pos (by trivial), if_neg (by omega)]
      by_cases c2 : m - (size (p.2 - p.1)).toNat < (size (p.1 - q.2 - 2)).toNat
      · obtain ⟨l, hl⟩ := take_off n2 (encL (lst (q :: t)) ++ r) c2
        rw [hl, if_neg (by simp)]
      · rw [take_in n2 _ (by omega)]
        simp only
        rw [if_pos (by trivial), if_neg (by omega), show p.2 - (p.2 - p.1 + 2 + (p.1 - q.2 - 2)) = q.2 by omega]
        rw [rg_cut t q r _ hall hg2 (by omega)]
theorem num_err (l : List Int) {e : Int} (he : e ≠ 0) : num ⟨l, e⟩ = (0, ⟨l, e⟩) := by
  unfold num
  rw [if_neg he]
theorem num_ok (l : List Int) : num ⟨l, 0⟩ = numL l := rfl
theorem body_cut {a : Ak} (h : chk a = true) {m : Nat} (hm : m < (encL (nums a)).length) : body a.mkd ((encL (nums a)).take m) = .error 3 := by
  obtain ⟨⟨p, t, hr, ht⟩, hd, hall, hg, ⟨he0, he1, he2⟩, hz⟩ := chk_parts h
  obtain ⟨d, rs, mk, e0, e1, e2⟩ := a
  simp only at hr hd hall hg he0 he1 he2 hz
  subst hr
  have hp := (okR_iff p).1 (List.all_eq_true.1 hall p (by simp))
  have e : encL (nums ⟨d, p :: t, mk, e0, e1, e2⟩) = enc p.2 (size p.2).toNat ++ (enc d (size d).toNat ++ (enc (t.length : Int) (size (t.length : Int)).toNat ++ (encL (lst (p :: t)) ++ encL (if mk then [e0, e1, e2] else [])))) := by
    unfold nums
    simp only [List.headD_cons, List.length_cons, encL, encL_app]
    rw [show (((t.length + 1 : Nat) : Int) - 1) = (t.length : Int) by omega]
  rw [e] at hm ⊢
  simp only [List.length_append, enc_length] at hm
  have n1 : isN p.2 = true := (isN_iff _).2 (by omega)
  have n3 : isN (t.length : Int) = true := (isN_iff _).2 (by omega)
  unfold body
  by_cases c1 : m < (size p.2).toNat
  · obtain ⟨l, hl⟩ := take_off n1 (enc d (size d).toNat ++ (enc (t.length : Int) (size (t.length : Int)).toNat ++ (encL (lst (p :: t)) ++ encL (if mk then [e0, e1, e2] else [])))) c1
    simp only [hl, num_err l (show (3 : Int) ≠ 0 by decide)]
    rw [if_neg (by simp)]
  simp only [take_in n1 _ (show (size p.2).toNat ≤ m by omega), num_ok]
  by_cases c2 : m - (size p.2).toNat < (size d).toNat
  · obtain ⟨l, hl⟩ := take_off hd (enc (t.length : Int) (size (t.length : Int)).toNat ++ (encL (lst (p :: t)) ++ encL (if mk then [e0, e1, e2] else []))) c2
    simp only [hl, num_err l (show (3 : Int) ≠ 0 by decide)]
    rw [if_neg (by simp)]
  simp only [take_in hd _ (show (size d).toNat ≤ m - (size p.2).toNat by omega), num_ok]
  by_cases c3 : m - (size p.2).toNat - (size d).toNat < (size (t.length : Int)).toNat
  · obtain ⟨l, hl⟩ := take_off n3 (encL (lst (p :: t)) ++ encL (if mk then [e0, e1, e2] else [])) c3
    simp only [hl]
    rw [if_neg (by simp)]
  simp only [take_in n3 _ (show (size (t.length : Int)).toNat ≤ m - (size p.2).toNat - (size d).toNat by omega)]
  rw [if_pos (by trivial), if_neg (by omega), Int.toNat_natCast]
  by_cases c4 : m - (size p.2).toNat - (size d).toNat - (size (t.length : Int)).toNat < (encL (lst (p :: t))).length
  · rw [rg_cut t p _ _ hall hg c4]
  rw [rg_in t p _ hall hg (by omega)]
  cases mk with
  | false => simp [encL] at hm; omega
  | true =>
    have e3 : encL (if true = true then [e0, e1, e2] else []) = enc e0 (size e0).toNat ++ (enc e1 (size e1).toNat ++ (enc e2 (size e2).toNat ++ [])) := by simp [encL]
    rw [e3] at hm ⊢
    simp only [List.length_append, enc_length, List.length_nil] at hm
    simp only [↓reduceIte]
    generalize hM : m - (size p.2).toNat - (size d).toNat - (size (t.length : Int)).toNat - (encL (lst (p :: t))).length = M
    by_cases c5 : M < (size e0).toNat
    · obtain ⟨l, hl⟩ := take_off he0 (enc e1 (size e1).toNat ++ (enc e2 (size e2).toNat ++ [])) c5
      simp only [hl, num_err l (show (3 : Int) ≠ 0 by decide)]
      rw [if_neg (by simp)]
    simp only [take_in he0 _ (show (size e0).toNat ≤ M by omega), num_ok]
    by_cases c6 : M - (size e0).toNat < (size e1).toNat
    · obtain ⟨l, hl⟩ := take_off he1 (enc e2 (size e2).toNat ++ []) c6
      simp only [hl, num_err l (show (3 : Int) ≠ 0 by decide)]
      rw [if_neg (by simp)]
    simp only [take_in he1 _ (show (size e1).toNat ≤ M - (size e0).toNat by omega), num_ok]
    obtain ⟨l, hl⟩ := take_off he2 [] (show M - (size e0).toNat - (size e1).toNat < (size e2).toNat by omega)
    simp only [hl]
    rw [if_neg (by simp)]
theorem parse_cut {a : Ak} (h : chk a = true) {k : Nat} (hk : k < (bytes a).1.length) : parse ((bytes a).1.take k) = (zero, 3) := by
  have hn : nxt ((bytes a).1.take k) = (zero, 0, 3) := by
    unfold bytes at hk ⊢
    rw [if_pos h] at hk ⊢
    cases k with
    | zero => rfl
    | succ k =>
      rw [List.take_succ_cons]
      have hb := body_cut h (m := k) (by simpa using hk)
      unfold nxt
      cases hm : a.mkd with
      | false =>
        rw [hm] at hb
        simp [hb]
      | true =>
        rw [hm] at hb
        simp [hb]
  unfold parse
  rw [hn]
  simp
end Frm
end Go.Proofs.YtpagdcobhbkabaaDoor
