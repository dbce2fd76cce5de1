/-
  Layer 5, plainly: how Next goes on, step by step.
-/
import Derived.Test.YtpagdcobhbkabaaDoorFro
namespace Go.Proofs.YtpagdcobhbkabaaDoor
namespace Frm
open Oct

def marks (d : Int) (mk : Bool) (rs : List (Int × Int)) (l : List Int) : Except Int (Ak × List Int) :=
  if mk then
    if (num (num (numL l).2).2).2.e = 0 then .ok (⟨d, rs, true, (numL l).1, (num (numL l).2).1, (num (num (numL l).2).2).1⟩, (num (num (numL l).2).2).2.l) else .error (num (num (numL l).2).2).2.e
  else .ok (⟨d, rs, false, 0, 0, 0⟩, l)
/-- What is still to come: ranges told so far, the reader, the greatest number, how many more. -/
def cont (mk : Bool) (d : Int) (acc : List (Int × Int)) (s : St) (hi : Int) (more : Nat) : Except Int (Ak × List Int) :=
  if s.e = 0 then (match rg more hi s.l with
    | .error e => .error e
    | .ok (rs, r) => marks d mk (acc ++ rs) r) else .error s.e
theorem body_cont (mk : Bool) (l : List Int) : body mk l = if (num (num (numL l).2).2).2.e = 0 ∧ 256 ≤ (num (num (numL l).2).2).1 then .error 5 else cont mk (num (numL l).2).1 [] (num (num (numL l).2).2).2 (numL l).1 (num (num (numL l).2).2).1.toNat := by
  unfold body cont
  simp only
  by_cases h1 : (num (num (numL l).2).2).2.e = 0
  · rw [if_pos h1]
    by_cases h2 : 256 ≤ (num (num (numL l).2).2).1
    · rw [if_pos h2, if_pos ⟨h1, h2⟩]
    · rw [if_neg h2, if_neg (fun h => h2 h.2), if_pos h1]
      cases hr : rg (num (num (numL l).2).2).1.toNat (numL l).1 (num (num (numL l).2).2).2.l with
      | error e => rfl
      | ok x =>
        obtain ⟨rs, r⟩ := x
        simp only [List.nil_append]
        rfl
  · rw [if_neg h1, if_neg (fun h => h1 h.1), if_neg h1]
theorem cont_err (mk : Bool) (d : Int) (acc : List (Int × Int)) (l : List Int) {e : Int} (he : e ≠ 0) (hi : Int) (more : Nat) : cont mk d acc ⟨l, e⟩ hi more = .error e := by
  unfold cont
  rw [if_neg he]
theorem cont_zero (mk : Bool) (d : Int) (acc : List (Int × Int)) (l : List Int) (hi : Int) : cont mk d acc ⟨l, 0⟩ hi 0 =
    if (numL l).2.e = 0 then (if hi < (numL l).1 then .error 50 else marks d mk (acc ++ [(hi - (numL l).1, hi)]) (numL l).2.l) else .error (numL l).2.e := by
  unfold cont
  rw [if_pos rfl]
  unfold rg
  by_cases h1 : (numL l).2.e = 0
  · rw [if_pos h1, if_pos h1]
    by_cases h2 : hi < (numL l).1
    · rw [if_pos h2, if_pos h2]
    · rw [if_neg h2, if_neg h2]
  · rw [if_neg h1, if_neg h1]
theorem cont_succ (mk : Bool) (d : Int) (acc : List (Int × Int)) (l : List Int) (hi : Int) (more : Nat) : cont mk d acc ⟨l, 0⟩ hi (more + 1) =
    if (numL l).2.e = 0 then (if hi < (numL l).1 then .error 50 else
      (if (numL (numL l).2.l).2.e = 0 then (if hi - ((numL l).1 + 2 + (numL (numL l).2.l).1) < 0 then .error 50
        else cont mk d (acc ++ [(hi - (numL l).1, hi)]) ⟨(numL (numL l).2.l).2.l, 0⟩ (hi - ((numL l).1 + 2 + (numL (numL l).2.l).1)) more) else .error (numL (numL l).2.l).2.e)) else .error (numL l).2.e := by
  unfold cont
  rw [if_pos rfl]
  conv => lhs; unfold rg
  by_cases h1 : (numL l).2.e = 0
  · rw [if_pos h1, if_pos h1]
    by_cases h2 : hi < (numL l).1
    · rw [if_pos h2, if_pos h2]
    · rw [if_neg h2, if_neg h2]
      simp only
      by_cases h3 : (numL (numL l).2.l).2.e = 0
      · rw [if_pos h3, if_pos h3]
        by_cases h4 : hi - ((numL l).1 + 2 + (numL (numL l).2.l).1) < 0
        · rw [if_pos h4, if_pos h4]
        · rw [if_neg h4, if_neg h4, if_pos (by trivial)]
          cases hr : rg more (hi - ((numL l).1 + 2 + (numL (numL l).2.l).1)) (numL (numL l).2.l).2.l with
          | error e => rfl
          | ok x =>
            obtain ⟨rs, r⟩ := x
            simp only [List.append_assoc]
            rfl
      · rw [if_neg h3, if_neg h3]
  · rw [if_neg h1, if_neg h1]
end Frm
end Go.Proofs.YtpagdcobhbkabaaDoor
