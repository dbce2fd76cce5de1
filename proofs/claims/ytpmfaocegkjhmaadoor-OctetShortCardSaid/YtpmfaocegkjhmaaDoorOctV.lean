/-
  Layer 2: OctetShort: bytes are ordered as numbers are; the walk.
-/
import Derived.Test.YtpmfaocegkjhmaaDoorOctQ
import Derived.Test.YtpmfaocegkjhmaaDoorOctN
import Derived.BigQuiet
namespace Go.Proofs.YtpmfaocegkjhmaaDoor
open Go.RowKit Go.Sort Go.Shelf Go.Deep Go.WideShapes

namespace Oct
theorem lex_step (c x y : Int) (t1 t2 : List Int) (h1 : Bys t1) (h2 : Bys t2) (hl : t1.length = t2.length) (hxy : x < y) : val c (x :: t1) < val c (y :: t2) := by
  rw [val_cons, val_cons, val_split, val_split (c * 256 + y), hl]
  have a := val_lt h1
  have b := val_lt h2
  rw [hl] at a
  have hp := pow_pos t2.length
  have h : (c * 256 + x + 1) * 256 ^ t2.length ≤ (c * 256 + y) * 256 ^ t2.length := Int.mul_le_mul_of_nonneg_right (by omega) (by omega)
  rw [Int.add_mul] at h
  omega
theorem lex (p t1 t2 : List Int) (x y : Int) (h1 : Bys t1) (h2 : Bys t2) (hl : t1.length = t2.length) (hne : x ≠ y) : (x < y ↔ val 0 (p ++ x :: t1) < val 0 (p ++ y :: t2)) := by
  rw [val_app, val_app]
  constructor
  · exact lex_step _ _ _ _ _ h1 h2 hl
  · intro h
    rcases Int.lt_trichotomy x y with hh | hh | hh
    · exact hh
    · exact absurd hh hne
    · have := lex_step (val 0 p) _ _ _ _ h2 h1 hl.symm hh
      omega
theorem val_enc {n : Int} {s : Nat} (h : Fits n s) : val 0 (enc n s) = n + 64 * idx s * 256 ^ (s - 1) := by
  obtain ⟨d, e, h0, h1, h2, h3, h4⟩ := enc_head h
  rw [e, val_cons, val_split, low_length, val_low, h4, Int.zero_mul, Int.zero_add, Int.add_mul]
  have := Int.mul_ediv_add_emod n (256 ^ (s - 1))
  rw [Int.mul_comm] at this
  omega
theorem enc_lex {n m : Int} {s : Nat} (hn : Fits n s) (hm : Fits m s) (k : Nat) (hp : (enc n s).take k = (enc m s).take k) (x y : Int) (hx : (enc n s)[k]? = some x) (hy : (enc m s)[k]? = some y) (hne : x ≠ y) : (x < y ↔ n < m) := by
  have en := enc_length n s
  have em := enc_length m s
  have e1 : enc n s = (enc n s).take k ++ x :: (enc n s).drop (k + 1) := by
    obtain ⟨h1, h2⟩ := List.getElem?_eq_some_iff.1 hx
    rw [← h2, ← List.drop_eq_getElem_cons h1, List.take_append_drop]
  have e2 : enc m s = (enc n s).take k ++ y :: (enc m s).drop (k + 1) := by
    obtain ⟨h1, h2⟩ := List.getElem?_eq_some_iff.1 hy
    rw [hp, ← h2, ← List.drop_eq_getElem_cons h1, List.take_append_drop]
  have h := lex ((enc n s).take k) ((enc n s).drop (k + 1)) ((enc m s).drop (k + 1)) x y ((enc_bys hn).drop _) ((enc_bys hm).drop _) (by simp [en, em]) hne
  rw [← e1, ← e2, val_enc hn, val_enc hm] at h
  omega
theorem enc_inj {n m : Int} {s : Nat} (hn : Fits n s) (hm : Fits m s) (h : enc n s = enc m s) : n = m := by
  have h1 := numL_enc hn []
  have h2 := numL_enc hm []
  rw [h, h2] at h1
  exact (congrArg Prod.fst h1).symm
theorem size_lt {n m : Int} (h0 : 0 ≤ n) (h1 : n ≤ 9007199254740991) (h2 : 0 ≤ m) (h3 : m ≤ 9007199254740991) (h : size n ≠ size m) : (size n < size m ↔ n < m) := by
  unfold size at *
  rw [if_neg (by omega), if_neg (show ¬ m < 0 by omega)] at *
  by_cases a1 : n ≤ 63 <;> by_cases b1 : m ≤ 63 <;> by_cases a2 : n ≤ 16383 <;> by_cases b2 : m ≤ 16383 <;> by_cases a3 : n ≤ 1073741823 <;> by_cases b3 : m ≤ 1073741823 <;> simp [a1, b1, a2, b2, a3, b3, h1, h3] at h ⊢ <;> omega
theorem strict_one {n : Int} {s : Nat} (h : Fits n s) : strict (enc n s) = decide ((s : Int) = size n) := by
  have := strict_enc h []
  rw [List.append_nil] at this
  rw [this]
  by_cases e : (s : Int) = size n
  · rw [if_pos e, decide_eq_true e]; rfl
  · rw [if_neg e, decide_eq_false e]
theorem strict_two {n m : Int} {s : Nat} (h0 : 0 ≤ n) (h1 : n ≤ 9007199254740991) (hm : Fits m s) : strict (enc n (size n).toNat ++ enc m s) = decide ((s : Int) = size m) := by
  obtain ⟨hf, hp, _⟩ := fits_size h0 h1
  rw [strict_enc hf, if_pos (by omega), strict_one hm]
end Oct
end Go.Proofs.YtpmfaocegkjhmaaDoor
