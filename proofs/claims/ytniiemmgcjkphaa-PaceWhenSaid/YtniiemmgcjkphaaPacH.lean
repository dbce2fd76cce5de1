/-
  Layer 14, plain: what pieces of time with one rate each let through.
-/
import Derived.Test.YtniiemmgcjkphaaBktP
namespace Go.Proofs.Ytniiemmgcjkphaa
namespace Pac

/-- A piece: from when on, so much in so long. -/
structure Pc where
  f : Int
  num : Int
  den : Int
def part (p : Pc) (a b : Int) : Int := if max a p.f < b then ((b - max a p.f) * p.num + p.den - 1) / p.den else 0
/-- As many as pieces let through from a to b. -/
def through : List Pc → Int → Int → Int
  | [], _, _ => 0
  | [p], a, b => part p a b
  | p :: q :: r, a, b => part p a (min b q.f) + through (q :: r) a b
/-- The pieces that are whole. -/
def whole : List Pc → Int → Int
  | [], _ => 0
  | [_], _ => 0
  | p :: q :: r, a => part p a q.f + whole (q :: r) a

theorem part_lo (p : Pc) (a b : Int) (h0 : 0 ≤ p.num) (h1 : 1 ≤ p.den) : 0 ≤ part p a b := by
  unfold part
  split
  · exact Int.ediv_nonneg (by have := Int.mul_nonneg (show 0 ≤ b - max a p.f by omega) h0; omega) (by omega)
  · omega
theorem through_snoc : ∀ (l : List Pc) (p x : Pc) (a b : Int), b ≤ x.f → through (l ++ [p] ++ [x]) a b = through (l ++ [p]) a b
  | [], p, x, a, b, h => by
    show part p a (min b x.f) + part x a b = part p a b
    rw [show min b x.f = b by omega]
    have : part x a b = 0 := by unfold part; rw [if_neg (by omega)]
    omega
  | [q], p, x, a, b, h => by
    have ih := through_snoc [] p x a b h
    show part q a (min b p.f) + through ([] ++ [p] ++ [x]) a b = part q a (min b p.f) + through ([] ++ [p]) a b
    rw [ih]
  | q :: q' :: r, p, x, a, b, h => by
    have ih := through_snoc (q' :: r) p x a b h
    show part q a (min b q'.f) + through (q' :: r ++ [p] ++ [x]) a b = part q a (min b q'.f) + through (q' :: r ++ [p]) a b
    rw [ih]
theorem whole_snoc : ∀ (l : List Pc) (p x : Pc) (a : Int), (∀ q ∈ l ++ [p], q.f ≤ x.f) → whole (l ++ [p] ++ [x]) a = through (l ++ [p]) a x.f
  | [], p, x, a, _ => by
    show part p a x.f + 0 = part p a x.f
    omega
  | [q], p, x, a, h => by
    have ih := whole_snoc [] p x a (fun y hy => h y (by simp at hy ⊢; exact .inr hy))
    have hp := h p (by simp)
    show part q a p.f + whole ([] ++ [p] ++ [x]) a = part q a (min x.f p.f) + through ([] ++ [p]) a x.f
    rw [ih, show min x.f p.f = p.f by omega]
  | q :: q' :: r, p, x, a, h => by
    have ih := whole_snoc (q' :: r) p x a (fun y hy => h y (List.mem_cons_of_mem _ hy))
    have hp := h q' (by simp)
    show part q a q'.f + whole (q' :: r ++ [p] ++ [x]) a = part q a (min x.f q'.f) + through (q' :: r ++ [p]) a x.f
    rw [ih, show min x.f q'.f = q'.f by omega]
theorem through_whole : ∀ (l : List Pc) (p : Pc) (a b : Int), (∀ q ∈ l ++ [p], q.f ≤ b) → through (l ++ [p]) a b = whole (l ++ [p]) a + part p a b
  | [], p, a, b, _ => by
    show part p a b = 0 + part p a b
    omega
  | [q], p, a, b, h => by
    have hp := h p (by simp)
    show part q a (min b p.f) + part p a b = part q a p.f + 0 + part p a b
    rw [show min b p.f = p.f by omega]; omega
  | q :: q' :: r, p, a, b, h => by
    have ih := through_whole (q' :: r) p a b (fun y hy => h y (List.mem_cons_of_mem _ hy))
    have hp := h q' (by simp)
    show part q a (min b q'.f) + through (q' :: r ++ [p]) a b = part q a q'.f + whole (q' :: r ++ [p]) a + part p a b
    rw [ih, show min b q'.f = q'.f by omega]; omega
end Pac
end Go.Proofs.Ytniiemmgcjkphaa
