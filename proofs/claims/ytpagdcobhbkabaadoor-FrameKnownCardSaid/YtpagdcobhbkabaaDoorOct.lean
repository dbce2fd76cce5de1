/-
  Numbers as bytes (layer 2), plainly: no program in sight.
-/
import Derived.Test.YtpagdcobhbkabaaDoorKit
namespace Go.Proofs.YtpagdcobhbkabaaDoor
namespace Oct

def cls (n : Int) : Int := if n < 0 then -1 else if n ≤ 63 then 0 else if n ≤ 16383 then 1 else if n ≤ 1073741823 then 2 else if n ≤ 9007199254740991 then 3 else -1
def size (n : Int) : Int := if n < 0 then 0 else if n ≤ 63 then 1 else if n ≤ 16383 then 2 else if n ≤ 1073741823 then 4 else if n ≤ 9007199254740991 then 8 else 0
def idx (s : Int) : Int := if s = 1 then 0 else if s = 2 then 1 else if s = 4 then 2 else if s = 8 then 3 else -1
/-- The last k bytes of a number, the highest one first. -/
def low (n : Int) : Nat → List Int
  | 0 => []
  | k + 1 => n / 256 ^ k % 256 :: low n k
def enc (n : Int) : Nat → List Int
  | 0 => []
  | k + 1 => (n / 256 ^ k % 256 + 64 * idx (k + 1 : Nat)) :: low n k
def putIn (b : List Int) (n s : Int) : List Int × Int := if cls n < 0 then ([], 9) else if idx s < cls n then ([], 2) else (b ++ enc n s.toNat, 0)
def put (b : List Int) (n : Int) : List Int × Int := putIn b n (max (size n) 1)

/-- A reader: the bytes that are left, and the first error. -/
structure St where
  l : List Int
  e : Int
def val (a : Int) (l : List Int) : Int := l.foldl (fun x d => x * 256 + d) a
def pw (b : Int) : Nat := if b < 64 then 1 else if b < 128 then 2 else if b < 192 then 4 else 8
def numL : List Int → Int × St
  | [] => (0, ⟨[], 3⟩)
  | b :: t => if t.length + 1 < pw b then (0, ⟨b :: t, 3⟩) else if 9007199254740991 < val (b % 64) (t.take (pw b - 1)) then (0, ⟨b :: t, 9⟩) else (val (b % 64) (t.take (pw b - 1)), ⟨t.drop (pw b - 1), 0⟩)
theorem numL_cons (b : Int) (t : List Int) : numL (b :: t) = if t.length + 1 < pw b then (0, ⟨b :: t, 3⟩) else if 9007199254740991 < val (b % 64) (t.take (pw b - 1)) then (0, ⟨b :: t, 9⟩) else (val (b % 64) (t.take (pw b - 1)), ⟨t.drop (pw b - 1), 0⟩) := rfl
def num (s : St) : Int × St := if s.e = 0 then numL s.l else (0, s)
def take (k : Int) (s : St) : List Int × St :=
  if s.e = 0 then (if k < 0 then ([], ⟨s.l, 2⟩) else if (s.l.length : Int) < k then ([], ⟨s.l, 3⟩) else (s.l.take k.toNat, ⟨s.l.drop k.toNat, 0⟩)) else ([], s)
def fin (s : St) : Int := if s.e = 0 then (if s.l = [] then 0 else 4) else s.e
def strictF : Nat → List Int → Bool
  | _, [] => true
  | 0, _ => false
  | k + 1, b :: t => if (numL (b :: t)).2.e = 0 ∧ ((b :: t).length : Int) - (numL (b :: t)).2.l.length = size (numL (b :: t)).1 then strictF k (numL (b :: t)).2.l else false
def strict (l : List Int) : Bool := strictF l.length l

/-! ### Lists of bytes -/
def Bys (l : List Int) : Prop := ∀ x ∈ l, 0 ≤ x ∧ x < 256
theorem Bys.nil : Bys [] := by intro x h; cases h
theorem Bys.app {a b : List Int} (ha : Bys a) (hb : Bys b) : Bys (a ++ b) := fun x h => by
  rcases List.mem_append.1 h with h | h
  · exact ha x h
  · exact hb x h
theorem Bys.cons {d : Int} {b : List Int} (h0 : 0 ≤ d) (h1 : d < 256) (hb : Bys b) : Bys (d :: b) := fun x h => by
  rcases List.mem_cons.1 h with rfl | h
  · exact ⟨h0, h1⟩
  · exact hb x h
theorem Bys.head {d : Int} {b : List Int} (h : Bys (d :: b)) : 0 ≤ d ∧ d < 256 := h d (List.mem_cons_self ..)
theorem Bys.tail {d : Int} {b : List Int} (h : Bys (d :: b)) : Bys b := fun x hx => h x (List.mem_cons_of_mem _ hx)
theorem Bys.take {b : List Int} (h : Bys b) (k : Nat) : Bys (b.take k) := fun x hx => h x (List.mem_of_mem_take hx)
theorem Bys.drop {b : List Int} (h : Bys b) (k : Nat) : Bys (b.drop k) := fun x hx => h x (List.mem_of_mem_drop hx)
theorem Bys.at {b : List Int} (h : Bys b) {k : Nat} (hk : k < b.length) : 0 ≤ b[k] ∧ b[k] < 256 := h _ (List.getElem_mem hk)

theorem val_nil (a : Int) : val a [] = a := rfl
theorem val_cons (a d : Int) (l : List Int) : val a (d :: l) = val (a * 256 + d) l := rfl
theorem val_app (a : Int) (l m : List Int) : val a (l ++ m) = val (val a l) m := by simp [val, List.foldl_append]
theorem pow_pos (k : Nat) : (0 : Int) < 256 ^ k := Int.pow_pos (by decide)
theorem val_split (a : Int) (l : List Int) : val a l = a * 256 ^ l.length + val 0 l := by
  induction l generalizing a with
  | nil => simp [val]
  | cons d l ih =>
    rw [val_cons, val_cons, ih, ih (0 * 256 + d), List.length_cons, Int.pow_succ, Int.zero_mul, Int.zero_add, Int.add_mul, Int.mul_assoc, Int.mul_comm 256 (256 ^ l.length)]
    omega
theorem val_lt {l : List Int} (h : Bys l) : 0 ≤ val 0 l ∧ val 0 l < 256 ^ l.length := by
  induction l with
  | nil => simp [val]
  | cons d l ih =>
    rw [val_cons, val_split, List.length_cons, Int.pow_succ, Int.zero_mul, Int.zero_add]
    have h1 := ih h.tail
    have h2 := h.head
    have hp := pow_pos l.length
    have h3 : d * 256 ^ l.length ≤ 255 * 256 ^ l.length := Int.mul_le_mul_of_nonneg_right (by omega) (by omega)
    have h4 : 0 ≤ d * 256 ^ l.length := Int.mul_nonneg h2.1 (by omega)
    generalize d * 256 ^ l.length = x at *
    generalize (256 : Int) ^ l.length = p at *
    omega

theorem low_length (n : Int) (k : Nat) : (low n k).length = k := by
  induction k with
  | zero => rfl
  | succ k ih => simp [low, ih]
theorem low_bys (n : Int) (k : Nat) : Bys (low n k) := by
  induction k with
  | zero => exact Bys.nil
  | succ k ih => exact Bys.cons (Int.emod_nonneg _ (by decide)) (Int.emod_lt_of_pos _ (by decide)) ih
theorem mod_step (n : Int) (k : Nat) : n / 256 ^ k % 256 * 256 ^ k + n % 256 ^ k = n % 256 ^ (k + 1) := by
  have hp := pow_pos k
  have e1 := Int.mul_ediv_add_emod n (256 ^ k)
  have e2 := Int.mul_ediv_add_emod (n / 256 ^ k) 256
  have b1 := Int.emod_nonneg n (show (256 : Int) ^ k ≠ 0 by omega)
  have b2 := Int.emod_lt_of_pos n hp
  have c1 := Int.emod_nonneg (n / 256 ^ k) (show (256 : Int) ≠ 0 by omega)
  have c2 := Int.emod_lt_of_pos (n / 256 ^ k) (show (0 : Int) < 256 by omega)
  rw [Int.pow_succ]
  have e3 : n = n / 256 ^ k % 256 * 256 ^ k + n % 256 ^ k + 256 ^ k * 256 * (n / 256 ^ k / 256) := by
    have e4 : 256 ^ k * (n / 256 ^ k) = 256 ^ k * 256 * (n / 256 ^ k / 256) + n / 256 ^ k % 256 * 256 ^ k := by
      rw [Int.mul_assoc, Int.mul_comm (n / 256 ^ k % 256), ← Int.mul_add, e2]
    omega
  have h3 : n / 256 ^ k % 256 * 256 ^ k ≤ 255 * 256 ^ k := Int.mul_le_mul_of_nonneg_right (by omega) (by omega)
  have h4 : 0 ≤ n / 256 ^ k % 256 * 256 ^ k := Int.mul_nonneg c1 (by omega)
  have e5 : (n / 256 ^ k % 256 * 256 ^ k + n % 256 ^ k + 256 ^ k * 256 * (n / 256 ^ k / 256)) % (256 ^ k * 256) = n / 256 ^ k % 256 * 256 ^ k + n % 256 ^ k := by
    rw [Int.add_mul_emod_self_left]
    exact Int.emod_eq_of_lt (by omega) (by omega)
  rw [← e3] at e5
  exact e5.symm
theorem val_low (n : Int) (k : Nat) : val 0 (low n k) = n % 256 ^ k := by
  induction k with
  | zero => show (0 : Int) = n % 1; omega
  | succ k ih =>
    show val 0 (_ :: _) = _
    rw [val_cons, val_split, low_length, ih, Int.zero_mul, Int.zero_add, mod_step]
theorem low_val (a : Int) (l : List Int) (h : Bys l) : low (a * 256 ^ l.length + val 0 l) l.length = l := by
  induction l generalizing a with
  | nil => rfl
  | cons d l ih =>
    have hb := val_lt h.tail
    have hd := h.head
    have hp := pow_pos l.length
    have e : a * 256 ^ (d :: l).length + val 0 (d :: l) = (a * 256 + d) * 256 ^ l.length + val 0 l := by
      rw [val_cons, val_split, List.length_cons, Int.pow_succ, Int.zero_mul, Int.zero_add, Int.add_mul, Int.mul_assoc, Int.mul_comm 256 (256 ^ l.length)]
      omega
    rw [e]
    show _ :: _ = _
    rw [ih _ h.tail]
    congr 1
    rw [Int.add_comm, Int.add_mul_ediv_right _ _ (by omega), Int.ediv_eq_zero_of_lt hb.1 hb.2]
    omega

/-! ### What is written -/
def Fits (n : Int) (s : Nat) : Prop := 0 ≤ n ∧ (s = 1 ∧ n ≤ 63 ∨ s = 2 ∧ n ≤ 16383 ∨ s = 4 ∧ n ≤ 1073741823 ∨ s = 8 ∧ n ≤ 9007199254740991)
theorem Fits.pos {n : Int} {s : Nat} (h : Fits n s) : 0 < s ∧ s ≤ 8 ∧ 0 ≤ n ∧ n ≤ 9007199254740991 := by
  rcases h with ⟨h0, ⟨rfl, h⟩ | ⟨rfl, h⟩ | ⟨rfl, h⟩ | ⟨rfl, h⟩⟩ <;> omega
theorem enc_head {n : Int} {s : Nat} (h : Fits n s) : ∃ d, enc n s = d :: low n (s - 1) ∧ 0 ≤ d ∧ d < 256 ∧ pw d = s ∧ d % 64 = n / 256 ^ (s - 1) ∧ d = n / 256 ^ (s - 1) + 64 * idx s := by
  rcases h with ⟨h0, ⟨rfl, h⟩ | ⟨rfl, h⟩ | ⟨rfl, h⟩ | ⟨rfl, h⟩⟩
  · refine ⟨n / 1 % 256 + 64 * 0, rfl, by omega, by omega, ?_, ?_, ?_⟩
    · unfold pw; rw [if_pos (by omega)]
    · show _ = n / 1; omega
    · show _ = n / 1 + 64 * 0; omega
  · refine ⟨n / 256 % 256 + 64 * 1, rfl, by omega, by omega, ?_, ?_, ?_⟩
    · unfold pw; rw [if_neg (by omega), if_pos (by omega)]
    · show _ = n / 256; omega
    · show _ = n / 256 + 64 * 1; omega
  · refine ⟨n / 16777216 % 256 + 64 * 2, rfl, by omega, by omega, ?_, ?_, ?_⟩
    · unfold pw; rw [if_neg (by omega), if_neg (by omega), if_pos (by omega)]
    · show _ = n / 16777216; omega
    · show _ = n / 16777216 + 64 * 2; omega
  · refine ⟨n / 72057594037927936 % 256 + 64 * 3, rfl, by omega, by omega, ?_, ?_, ?_⟩
    · unfold pw; rw [if_neg (by omega), if_neg (by omega), if_neg (by omega)]
    · show _ = n / 72057594037927936; omega
    · show _ = n / 72057594037927936 + 64 * 3; omega
theorem enc_length (n : Int) (s : Nat) : (enc n s).length = s := by
  cases s with
  | zero => rfl
  | succ k => simp [enc, low_length]
theorem enc_bys {n : Int} {s : Nat} (h : Fits n s) : Bys (enc n s) := by
  obtain ⟨d, e, h0, h1, _⟩ := enc_head h
  rw [e]
  exact Bys.cons h0 h1 (low_bys _ _)
theorem numL_enc {n : Int} {s : Nat} (h : Fits n s) (r : List Int) : numL (enc n s ++ r) = (n, ⟨r, 0⟩) := by
  obtain ⟨d, e, h0, h1, h2, h3, _⟩ := enc_head h
  obtain ⟨p0, p1, p2, p3⟩ := h.pos
  have hl : (low n (s - 1)).length = s - 1 := low_length _ _
  have hv : val (n / 256 ^ (s - 1)) (low n (s - 1)) = n := by
    rw [val_split, val_low, hl, Int.mul_comm]
    exact Int.mul_ediv_add_emod _ _
  rw [e, List.cons_append]
  rw [numL_cons, h2, h3, if_neg (by simp [hl]; omega), List.take_append_of_le_length (by omega), List.take_of_length_le (by omega), hv, if_neg (by omega), List.drop_append_of_le_length (by omega), List.drop_of_length_le (by omega), List.nil_append]
theorem numL_cut {n : Int} {s k : Nat} (h : Fits n s) (hk : k < s) : ∃ l, numL ((enc n s).take k) = (0, ⟨l, 3⟩) := by
  obtain ⟨d, e, h0, h1, h2, h3, _⟩ := enc_head h
  rw [e]
  cases k with
  | zero => exact ⟨_, rfl⟩
  | succ k =>
    refine ⟨d :: (low n (s - 1)).take k, ?_⟩
    rw [List.take_succ_cons, numL_cons, if_pos (by simp [low_length]; omega)]
theorem fits_size {n : Int} (h0 : 0 ≤ n) (h1 : n ≤ 9007199254740991) : Fits n (size n).toNat ∧ 0 < size n ∧ size n ≤ 8 := by
  unfold size
  rw [if_neg (by omega)]
  by_cases a : n ≤ 63
  · rw [if_pos a]; exact ⟨⟨h0, .inl ⟨rfl, a⟩⟩, by decide, by decide⟩
  rw [if_neg a]
  by_cases b : n ≤ 16383
  · rw [if_pos b]; exact ⟨⟨h0, .inr (.inl ⟨rfl, b⟩)⟩, by decide, by decide⟩
  rw [if_neg b]
  by_cases c : n ≤ 1073741823
  · rw [if_pos c]; exact ⟨⟨h0, .inr (.inr (.inl ⟨rfl, c⟩))⟩, by decide, by decide⟩
  rw [if_neg c, if_pos h1]
  exact ⟨⟨h0, .inr (.inr (.inr ⟨rfl, h1⟩))⟩, by decide, by decide⟩
theorem putIn_cases (b : List Int) (n s : Int) :
    (putIn b n s = ([], 9) ∧ size n = 0 ∧ cls n < 0) ∨ (putIn b n s = ([], 2) ∧ 0 ≤ cls n ∧ idx s < cls n ∧ 0 < size n) ∨ (putIn b n s = (b ++ enc n s.toNat, 0) ∧ 0 ≤ cls n ∧ cls n ≤ idx s ∧ Fits n s.toNat ∧ 0 < s ∧ s ≤ 8) := by
  unfold putIn
  by_cases h0 : n < 0
  · left; simp [cls, size, h0]
  by_cases h1 : 9007199254740991 < n
  · left
    have a1 : ¬ n ≤ 63 := by omega
    have a2 : ¬ n ≤ 16383 := by omega
    have a3 : ¬ n ≤ 1073741823 := by omega
    have a4 : ¬ n ≤ 9007199254740991 := by omega
    simp [cls, size, h0, a1, a2, a3, a4]
  right
  have hc : 0 ≤ cls n := by unfold cls; repeat' split <;> omega
  have hs := (fits_size (by omega) (show n ≤ 9007199254740991 by omega)).2.1
  rw [if_neg (by omega)]
  by_cases h2 : idx s < cls n
  · left; rw [if_pos h2]; exact ⟨rfl, hc, h2, hs⟩
  · right
    rw [if_neg h2]
    refine ⟨rfl, hc, by omega, ?_⟩
    have hi : 0 ≤ idx s := by omega
    unfold idx at hi h2
    unfold cls at h2 hc
    by_cases s1 : s = 1
    · subst s1
      refine ⟨⟨by omega, .inl ⟨rfl, ?_⟩⟩, by omega, by omega⟩
      by_cases a : n ≤ 63
      · exact a
      · exfalso; revert h2; rw [if_neg h0, if_neg a]; simp; repeat' split <;> omega
    by_cases s2 : s = 2
    · subst s2
      refine ⟨⟨by omega, .inr (.inl ⟨rfl, ?_⟩)⟩, by omega, by omega⟩
      by_cases a : n ≤ 16383
      · exact a
      · exfalso; revert h2; rw [if_neg h0, if_neg (show ¬ n ≤ 63 by omega), if_neg a]; simp; repeat' split <;> omega
    by_cases s4 : s = 4
    · subst s4
      refine ⟨⟨by omega, .inr (.inr (.inl ⟨rfl, ?_⟩))⟩, by omega, by omega⟩
      by_cases a : n ≤ 1073741823
      · exact a
      · exfalso; revert h2; rw [if_neg h0, if_neg (show ¬ n ≤ 63 by omega), if_neg (show ¬ n ≤ 16383 by omega), if_neg a]; simp; repeat' split <;> omega
    by_cases s8 : s = 8
    · subst s8
      exact ⟨⟨by omega, .inr (.inr (.inr ⟨rfl, by omega⟩))⟩, by omega, by omega⟩
    exfalso; rw [if_neg s1, if_neg s2, if_neg s4, if_neg s8] at hi; omega
theorem cls_le_idx_of_fits {n : Int} {s : Nat} (h : Fits n s) : 0 ≤ cls n ∧ cls n ≤ idx s := by
  rcases h with ⟨h0, ⟨rfl, h⟩ | ⟨rfl, h⟩ | ⟨rfl, h⟩ | ⟨rfl, h⟩⟩
  · have : idx ((1 : Nat) : Int) = 0 := rfl
    rw [this]; unfold cls; repeat' split <;> omega
  · have : idx ((2 : Nat) : Int) = 1 := rfl
    rw [this]; unfold cls; repeat' split <;> omega
  · have : idx ((4 : Nat) : Int) = 2 := rfl
    rw [this]; unfold cls; repeat' split <;> omega
  · have : idx ((8 : Nat) : Int) = 3 := rfl
    rw [this]; unfold cls; repeat' split <;> omega
theorem putIn_fits (b : List Int) {n : Int} {s : Nat} (h : Fits n s) : putIn b n s = (b ++ enc n s, 0) := by
  obtain ⟨h1, h2⟩ := cls_le_idx_of_fits h
  unfold putIn
  rw [if_neg (by omega), if_neg (by omega)]
  rfl

/-! ### Strict -/
theorem numL_left {l : List Int} (h : (numL l).2.e = 0) : (numL l).2.l.length < l.length := by
  cases l with
  | nil => simp [numL] at h
  | cons b t =>
    rw [numL_cons] at h ⊢
    by_cases h1 : t.length + 1 < pw b
    · rw [if_pos h1] at h; simp at h
    · rw [if_neg h1] at h ⊢
      by_cases h2 : 9007199254740991 < val (b % 64) (t.take (pw b - 1))
      · rw [if_pos h2] at h; simp at h
      · rw [if_neg h2]; simp; omega
theorem strictF_enough : ∀ (k : Nat) (l : List Int), l.length ≤ k → strictF k l = strict l := by
  intro k
  induction k using Nat.strongRecOn with
  | _ k ih =>
    intro l hl
    cases l with
    | nil => cases k <;> rfl
    | cons b t =>
      cases k with
      | zero => simp at hl
      | succ k =>
        show (if _ then _ else _) = (if _ then _ else _)
        by_cases h : (numL (b :: t)).2.e = 0 ∧ ((b :: t).length : Int) - (numL (b :: t)).2.l.length = size (numL (b :: t)).1
        · rw [if_pos h, if_pos h]
          have hlt := numL_left h.1
          simp only [List.length_cons] at hl hlt
          rw [ih k (by omega) _ (by omega)]
          by_cases ht : t.length < k + 1
          · rw [ih t.length (by omega) _ (by omega)]
          · omega
        · rw [if_neg h, if_neg h]
theorem strict_step (b : Int) (t : List Int) : strict (b :: t) = if (numL (b :: t)).2.e = 0 ∧ ((b :: t).length : Int) - (numL (b :: t)).2.l.length = size (numL (b :: t)).1 then strict (numL (b :: t)).2.l else false := by
  show (if _ then _ else _) = _
  by_cases h : (numL (b :: t)).2.e = 0 ∧ ((b :: t).length : Int) - (numL (b :: t)).2.l.length = size (numL (b :: t)).1
  · rw [if_pos h, if_pos h]
    have hlt := numL_left h.1
    simp only [List.length_cons] at hlt
    exact strictF_enough _ _ (by omega)
  · rw [if_neg h, if_neg h]
theorem strict_enc {n : Int} {s : Nat} (h : Fits n s) (r : List Int) : strict (enc n s ++ r) = if (s : Int) = size n then strict r else false := by
  obtain ⟨d, e, _⟩ := enc_head h
  have hn := numL_enc h r
  have hl : (enc n s ++ r).length = s + r.length := by rw [List.length_append, enc_length]
  rw [e, List.cons_append] at hn hl ⊢
  rw [strict_step, hn, hl]
  have e2 : ((s + r.length : Nat) : Int) - (r.length : Int) = (s : Int) := by omega
  show (if 0 = 0 ∧ _ then _ else _) = _
  simp only [true_and]
  rw [e2]
end Oct
end Go.Proofs.YtpagdcobhbkabaaDoor
