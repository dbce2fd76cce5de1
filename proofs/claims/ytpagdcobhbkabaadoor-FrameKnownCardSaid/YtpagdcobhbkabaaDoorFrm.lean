/-
  Layer 5, plainly: ACKs, their bytes, how they are read.
-/
import Derived.Test.YtpagdcobhbkabaaDoorOct
namespace Go.Proofs.YtpagdcobhbkabaaDoor
namespace Frm
open Oct

/-- An ACK: the delay, the ranges (least, greatest), whether it is marked, the marks. -/
structure Ak where
  d : Int
  rs : List (Int × Int)
  mkd : Bool
  e0 : Int
  e1 : Int
  e2 : Int
def zero : Ak := ⟨0, [], false, 0, 0, 0⟩
def isN (n : Int) : Bool := decide (0 ≤ n) && decide (n ≤ 9007199254740991)
theorem isN_iff (n : Int) : isN n = true ↔ 0 ≤ n ∧ n ≤ 9007199254740991 := by unfold isN; simp
def okR (p : Int × Int) : Bool := isN p.1 && isN p.2 && decide (p.1 ≤ p.2)
theorem okR_iff (p : Int × Int) : okR p = true ↔ (0 ≤ p.1 ∧ p.1 ≤ p.2 ∧ p.2 ≤ 9007199254740991) := by
  unfold okR
  simp only [Bool.and_eq_true, isN_iff, decide_eq_true_eq]
  omega
def gapsOk : List (Int × Int) → Bool
  | [] => true
  | [_] => true
  | p :: q :: t => decide (q.2 ≤ p.1 - 2) && gapsOk (q :: t)
def okE (mk : Bool) (n : Int) : Bool := isN n && (mk || decide (n = 0))
def chk (a : Ak) : Bool := decide (1 ≤ a.rs.length) && decide (a.rs.length ≤ 256) && isN a.d && a.rs.all okR && gapsOk a.rs && okE a.mkd a.e0 && okE a.mkd a.e1 && okE a.mkd a.e2
/-- The numbers of ranges, behind how many there are. -/
def lst : List (Int × Int) → List Int
  | [] => []
  | [p] => [p.2 - p.1]
  | p :: q :: t => (p.2 - p.1) :: (p.1 - q.2 - 2) :: lst (q :: t)
def nums (a : Ak) : List Int := (a.rs.headD (0, 0)).2 :: a.d :: ((a.rs.length : Int) - 1) :: (lst a.rs ++ if a.mkd then [a.e0, a.e1, a.e2] else [])
def encL : List Int → List Int
  | [] => []
  | n :: t => enc n (size n).toNat ++ encL t
def bytes (a : Ak) : List Int × Int := if chk a then ((if a.mkd then 3 else 2) :: encL (nums a), 0) else ([], 2)

/-- Ranges, read: so many more behind the first one, whose greatest number is told. -/
def rg : Nat → Int → List Int → Except Int (List (Int × Int) × List Int)
  | m, hi, l =>
    if (numL l).2.e = 0 then
      if hi < (numL l).1 then .error 50
      else match m with
        | 0 => .ok ([(hi - (numL l).1, hi)], (numL l).2.l)
        | m + 1 =>
          if (numL (numL l).2.l).2.e = 0 then
            if hi - ((numL l).1 + 2 + (numL (numL l).2.l).1) < 0 then .error 50
            else match rg m (hi - ((numL l).1 + 2 + (numL (numL l).2.l).1)) (numL (numL l).2.l).2.l with
              | .error e => .error e
              | .ok (rs, r) => .ok ((hi - (numL l).1, hi) :: rs, r)
          else .error (numL (numL l).2.l).2.e
    else .error (numL l).2.e
def body (mk : Bool) (l : List Int) : Except Int (Ak × List Int) :=
  let h := numL l
  let d := num h.2
  let m := num d.2
  if m.2.e = 0 then
    if 256 ≤ m.1 then .error 5
    else match rg m.1.toNat h.1 m.2.l with
      | .error e => .error e
      | .ok (rs, r) =>
        if mk then
          let x := numL r
          let y := num x.2
          let z := num y.2
          if z.2.e = 0 then .ok (⟨d.1, rs, true, x.1, y.1, z.1⟩, z.2.l) else .error z.2.e
        else .ok (⟨d.1, rs, false, 0, 0, 0⟩, r)
  else .error m.2.e
def nxt : List Int → Ak × Int × Int
  | [] => (zero, 0, 3)
  | t :: l => if t = 2 ∨ t = 3 then (match body (decide (t = 3)) l with
      | .error e => (zero, 0, e)
      | .ok (a, r) => (a, ((t :: l).length : Int) - r.length, 0)) else (zero, 0, 50)
def parse (b : List Int) : Ak × Int := if (nxt b).2.2 = 0 then (if (nxt b).2.1 < b.length then (zero, 4) else ((nxt b).1, 0)) else ((nxt b).1, (nxt b).2.2)
def has (a : Ak) (n : Int) : Bool := chk a && a.rs.any fun p => decide (p.1 ≤ n) && decide (n ≤ p.2)

/-! ### What is written is read -/
theorem encL_app (a b : List Int) : encL (a ++ b) = encL a ++ encL b := by
  induction a with
  | nil => rfl
  | cons x t ih => simp [encL, ih]
theorem read1 {n : Int} (h : isN n = true) (r : List Int) : numL (enc n (size n).toNat ++ r) = (n, ⟨r, 0⟩) := by
  obtain ⟨h0, h1⟩ := (isN_iff n).1 h
  exact numL_enc (fits_size h0 h1).1 r
theorem read1' {n : Int} (h : isN n = true) (r : List Int) : num ⟨enc n (size n).toNat ++ r, 0⟩ = (n, ⟨r, 0⟩) := read1 h r
theorem lst_cons2 (p q : Int × Int) (t : List (Int × Int)) : lst (p :: q :: t) = (p.2 - p.1) :: (p.1 - q.2 - 2) :: lst (q :: t) := rfl
theorem rg_enc : ∀ (t : List (Int × Int)) (p : Int × Int) (r : List Int), (p :: t).all okR = true → gapsOk (p :: t) = true → rg t.length p.2 (encL (lst (p :: t)) ++ r) = .ok (p :: t, r)
  | [], p, r, h, _ => by
    have hp := (okR_iff p).1 (List.all_eq_true.1 h p (by simp))
    have e : encL (lst [p]) ++ r = enc (p.2 - p.1) (size (p.2 - p.1)).toNat ++ r := by simp [lst, encL]
    rw [e]
    unfold rg
    rw [read1 ((isN_iff _).2 (by omega))]
    simp only [List.length_nil]
    rw [if_pos (by trivial), if_neg (by omega), show p.2 - (p.2 - p.1) = p.1 by omega]
  | q :: t, p, r, h, hg => by
    have hp := (okR_iff p).1 (List.all_eq_true.1 h p (by simp))
    have hq := (okR_iff q).1 (List.all_eq_true.1 h q (by simp))
    have hg1 : q.2 ≤ p.1 - 2 := by
      simp only [gapsOk, Bool.and_eq_true, decide_eq_true_eq] at hg
      exact hg.1
    have hg2 : gapsOk (q :: t) = true := by
      simp only [gapsOk, Bool.and_eq_true] at hg
      exact hg.2
    have ih := rg_enc t q r (by simp only [List.all_cons, Bool.and_eq_true] at h ⊢; exact h.2) hg2
    have e : encL (lst (p :: q :: t)) ++ r = enc (p.2 - p.1) (size (p.2 - p.1)).toNat ++ (enc (p.1 - q.2 - 2) (size (p.1 - q.2 - 2)).toNat ++ (encL (lst (q :: t)) ++ r)) := by simp [lst_cons2, encL]
    rw [e]
    unfold rg
    rw [read1 ((isN_iff _).2 (by omega))]
    simp only [List.length_cons]
    rw [if_pos (by trivial), if_neg (by omega), read1 ((isN_iff _).2 (by omega))]
    simp only
    rw [if_pos (by trivial), if_neg (by omega), show p.2 - (p.2 - p.1 + 2 + (p.1 - q.2 - 2)) = q.2 by omega, ih, show p.2 - (p.2 - p.1) = p.1 by omega]
theorem chk_parts {a : Ak} (h : chk a = true) : (∃ p t, a.rs = p :: t ∧ t.length ≤ 255) ∧ isN a.d = true ∧ a.rs.all okR = true ∧ gapsOk a.rs = true ∧ (isN a.e0 = true ∧ isN a.e1 = true ∧ isN a.e2 = true) ∧ (a.mkd = false → a.e0 = 0 ∧ a.e1 = 0 ∧ a.e2 = 0) := by
  unfold chk at h
  simp only [Bool.and_eq_true, decide_eq_true_eq, okE, Bool.or_eq_true] at h
  obtain ⟨⟨⟨⟨⟨⟨⟨h1, h2⟩, h3⟩, h4⟩, h5⟩, h6, h6'⟩, h7, h7'⟩, h8, h8'⟩ := h
  refine ⟨?_, h3, h4, h5, ⟨h6, h7, h8⟩, fun hm => ?_⟩
  · cases hr : a.rs with
    | nil => rw [hr] at h1; simp at h1
    | cons p t => rw [hr] at h2; exact ⟨p, t, rfl, by simp at h2; omega⟩
  · rw [hm] at h6' h7' h8'
    exact ⟨h6'.resolve_left (by decide), h7'.resolve_left (by decide), h8'.resolve_left (by decide)⟩
theorem body_enc {a : Ak} (h : chk a = true) (r : List Int) : body a.mkd (encL (nums a) ++ r) = .ok (a, r) := by
  obtain ⟨⟨p, t, hr, ht⟩, hd, hall, hg, ⟨he0, he1, he2⟩, hz⟩ := chk_parts h
  obtain ⟨d, rs, mk, e0, e1, e2⟩ := a
  simp only at hr hd hall hg he0 he1 he2 hz
  subst hr
  have hp := (okR_iff p).1 (List.all_eq_true.1 hall p (by simp))
  have e : encL (nums ⟨d, p :: t, mk, e0, e1, e2⟩) ++ r = enc p.2 (size p.2).toNat ++ (enc d (size d).toNat ++ (enc (t.length : Int) (size (t.length : Int)).toNat ++ (encL (lst (p :: t)) ++ (encL (if mk then [e0, e1, e2] else []) ++ r)))) := by
    unfold nums
    simp only [List.headD_cons, List.length_cons, encL, encL_app, List.append_assoc]
    rw [show (((t.length + 1 : Nat) : Int) - 1) = (t.length : Int) by omega]
  rw [e]
  unfold body
  simp only [read1 ((isN_iff p.2).2 (by omega)), read1' hd, read1' ((isN_iff (t.length : Int)).2 (by omega)), Int.toNat_natCast]
  rw [if_pos (by trivial), if_neg (by omega), rg_enc t p _ hall hg]
  cases mk with
  | false =>
    obtain ⟨z0, z1, z2⟩ := hz rfl
    subst z0 z1 z2
    simp [encL]
  | true =>
    have e3 : encL (if true = true then [e0, e1, e2] else []) ++ r = enc e0 (size e0).toNat ++ (enc e1 (size e1).toNat ++ (enc e2 (size e2).toNat ++ r)) := by simp [encL]
    rw [e3]
    simp [read1 he0, read1' he1, read1' he2]
theorem nxt_enc {a : Ak} (h : chk a = true) (r : List Int) : nxt ((bytes a).1 ++ r) = (a, ((bytes a).1.length : Int), 0) := by
  unfold bytes
  rw [if_pos h]
  simp only [List.cons_append]
  have hb := body_enc h r
  unfold nxt
  cases hm : a.mkd with
  | false =>
    rw [hm] at hb
    simp [hb]
    omega
  | true =>
    rw [hm] at hb
    simp [hb]
    omega
theorem parse_enc {a : Ak} (h : chk a = true) : parse (bytes a).1 = (a, 0) := by
  have h1 := nxt_enc h []
  rw [List.append_nil] at h1
  unfold parse
  rw [h1]
  simp
end Frm
end Go.Proofs.YtpagdcobhbkabaaDoor
