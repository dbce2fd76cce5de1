/-
  Layer 14: what a pacer that plays leaves as it was.
-/
import Derived.Test.YtniiemmgcjkphaaPacJ
import Derived.Test.YtniiemmgcjkphaaPacE
namespace Go.Proofs.Ytniiemmgcjkphaa
open Go.RowKit Go.Sort

namespace Pac
/-- How great what is told may be. -/
structure Bd (L : List Pc) (gs : List (Int × Int)) : Prop where
  head : ∃ r, L = ⟨0, 0, 1⟩ :: r
  pcs : ∀ q ∈ L, 0 ≤ q.f ∧ q.num ≤ 5242880 ∧ q.den ≤ 4294967296
  gns : ∀ g ∈ gs, 0 ≤ g.1 ∧ 1 ≤ g.2 ∧ g.2 ≤ 3000
theorem bd_start : Bd ([] ++ [⟨0, 0, 1⟩]) [] := ⟨⟨[], rfl⟩, fun q hq => by simp at hq; subst hq; exact ⟨by decide, by decide, by decide⟩, fun g hg => by simp at hg⟩
theorem Bd.piece {L : List Pc} {gs : List (Int × Int)} (h : Bd L gs) {x : Pc} (h0 : 0 ≤ x.f) (h1 : x.num ≤ 5242880) (h2 : x.den ≤ 4294967296) : Bd (L ++ [x]) gs := by
  obtain ⟨⟨r, hr⟩, hp, hg⟩ := h
  refine ⟨⟨r ++ [x], by rw [hr]; rfl⟩, fun q hq => ?_, hg⟩
  rcases List.mem_append.1 hq with hq | hq
  · exact hp q hq
  · rw [List.mem_singleton.1 hq]; exact ⟨h0, h1, h2⟩
theorem Bd.gone {L : List Pc} {gs : List (Int × Int)} (h : Bd L gs) {g : Int × Int} (h0 : 0 ≤ g.1) (h1 : 1 ≤ g.2) (h2 : g.2 ≤ 3000) : Bd L (gs ++ [g]) := by
  refine ⟨h.head, h.pcs, fun q hq => ?_⟩
  rcases List.mem_append.1 hq with hq | hq
  · exact h.gns q hq
  · rw [List.mem_singleton.1 hq]; exact ⟨h0, h1, h2⟩
end Pac
theorem Only.more {F G : Nat → Prop} {w wr w' : World} (h : Only F w wr) (k : Only G wr w') (hs : ∀ i, G i → F i ∨ w.heap.size ≤ i) : Only F w w' :=
  ⟨k.os.trans h.os, k.tape.trans h.tape, k.output.trans h.output, Nat.le_trans h.size k.size, fun i hi hn => (k.block i (Nat.lt_of_lt_of_le hi h.size) (fun hg => by
    rcases hs i hg with h1 | h1
    · exact hn h1
    · omega)).trans (h.block i hi hn)⟩
theorem Only.row_ {F : Nat → Prop} {w wr w' : World} {v : Value} (h : Only F w wr) (hg : wr.grownBy w' v.ownBlock) (hl : ∀ g, v.ownBlock = some g → w.heap.size ≤ g) : Only F w w' :=
  ⟨hg.os.trans h.os, hg.tape.trans h.tape, hg.output.trans h.output, Nat.le_trans h.size hg.size, fun i hi hn => (hg.block i (Nat.lt_of_lt_of_le hi h.size) (fun e => by
    have := hl i e.symm
    omega)).trans (h.block i hi hn)⟩
theorem Only.late {F : Nat → Prop} {w wr w' : World} (h : Only F w wr) (hb : Below wr.heap.size wr w') : Only F w w' := h.trans (Only.of_below hb)
section
variable {α β : Type} {enc : α → List Value} {enc' : β → List Value} {e e' : TypeId} {size size' : Nat} {w w' : World} {B B' : Nat} {v v' : Value} {l : List α} {m : List β}
theorem OwnE.apart (h : OwnE enc e size w B v l) (h' : OwnE enc' e' size' w B' v' m) (hne : e ≠ e') : v.ownBlock = none ∨ v.ownBlock ≠ v'.ownBlock := by
  rcases h.2 with ⟨rfl, _⟩ | ⟨g, cap, cur, rfl, _, hh, _⟩
  · exact .inl rfl
  · right
    intro he
    exact OwnE.ne h' (g := g) (t := e) (cs := cur) hh (Ne.symm hne) he.symm
theorem blk_row {g : Nat} {t : TypeId} {cs : Array Value} (hk : Blk w g t cs) (h : OwnE enc e size w B v l) (hg : w.grownBy w' v.ownBlock) (hne : e ≠ t) : Blk w' g t cs :=
  (hg.block g hk.lt (fun he => OwnE.ne h hk hne he.symm)).trans hk
theorem OwnE.p1 {p : Nat} (h : OwnE enc e size w B v l) (hg : w.grownBy w' (some p)) (hp : p < B) : OwnE enc e size w' B v l := h.grown hg (by
  cases hv : v.ownBlock with
  | none => exact .inl rfl
  | some g =>
    right
    intro he
    injection he with he
    have := (h.low g hv).1
    omega)
end
theorem pk_row {α : Type} {enc : α → List Value} {e : TypeId} {size : Nat} {w w' : World} {B : Nat} {v : Value} {l : List α} {p b : Nat} {s : Pac.St} (hk : Pk w p b s) (h : OwnE enc e size w B v l) (hg : w.grownBy w' v.ownBlock) (h1 : e ≠ 96) (h2 : e ≠ 60) : Pk w' p b s :=
  ⟨blk_row hk.p h hg h1, blk_row hk.b h hg h2⟩
theorem own_set {α : Type} {enc : α → List Value} {e : TypeId} {size : Nat} {w w' : World} {B : Nat} {v : Value} {l : List α} {p b : Nat} {s : Pac.St} (h : OwnE enc e size w B v l) (hk : Pk w p b s) (ho : Only (fun k => k = p ∨ k = b) w w') (h1 : e ≠ 96) (h2 : e ≠ 60) : OwnE enc e size w' B v l :=
  h.only ho (fun g hg hF => by
    rcases hF with rfl | rfl
    · exact OwnE.ne h hk.p h1 hg
    · exact OwnE.ne h hk.b h2 hg)
end Go.Proofs.Ytniiemmgcjkphaa
