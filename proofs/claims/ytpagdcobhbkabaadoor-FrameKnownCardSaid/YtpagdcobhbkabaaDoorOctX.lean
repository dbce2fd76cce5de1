/-
  Layer 2: OctetCut: integers of the call's own; what is cut off.
-/
import Derived.Test.YtpagdcobhbkabaaDoorOctS
namespace Go.Proofs.YtpagdcobhbkabaaDoor
open Go.RowKit Go.Sort Go.Shelf Go.Deep Go.WideShapes

/-- Integers of the call's own. -/
def OI (w : World) (B : Nat) (v : Value) (l : List Int) : Prop := w.ownsRow B 3 1 v l.length (l.map (Value.int .i64))
theorem OI.nil (w : World) (B : Nat) : OI w B (.slice none 0 0) [] := World.ownsRow_nil w B _ _
theorem OI.later {w w' : World} {B : Nat} {v : Value} {l : List Int} (h : OI w B v l) (hb : Below w.heap.size w w') : OI w' B v l :=
  World.ownsRow.kept h (row := none) ⟨hb.os, hb.tape, hb.output, hb.size, fun k hk _ => hb.block k hk⟩ (by cases v.ownBlock <;> simp)
theorem OI.lt {w : World} {B : Nat} {v : Value} {l : List Int} (h : OI w B v l) {g : Nat} (hg : v.ownBlock = some g) : g < w.heap.size := (World.ownsRow.lt h g hg).2
theorem OI.but {w w' : World} {B p : Nat} {v : Value} {l : List Int} (h : OI w B v l) (ho : Only (· = p) w w') (hp : ∀ g, v.ownBlock = some g → g ≠ p) : OI w' B v l :=
  World.ownsRow.kept h (row := some p) ho.grown (by
    cases hv : v.ownBlock with
    | none => exact .inl rfl
    | some g => right; intro e; injection e with e; exact hp g hv e)
theorem OI.cell {w : World} {B : Nat} {v : Value} {l : List Int} (h : OI w B v l) (hl : 0 < l.length) : ∃ g cap, v = .slice (some ⟨g, 0, none⟩) l.length cap ∧ ∀ k x, l[k]? = some x → w.cell? ⟨g, k, none⟩ = some (.int .i64 x) := by
  rcases h.2 with ⟨_, h0⟩ | ⟨g, cap, cur, rfl, hb, hh, hn, hm, hs, ht⟩
  · omega
  · refine ⟨g, cap, rfl, fun k x hx => ?_⟩
    have hk : k < l.length := (List.getElem?_eq_some_iff.1 hx).1
    have e1 : (l.map (Value.int .i64))[k]? = some (.int .i64 x) := by simp [hx]
    rw [← ht, List.getElem?_take_of_lt (by omega)] at e1
    rw [cell_of_row w g k cur _ _ hh]
    simpa using e1
theorem OB.apart {w w' : World} {B B' : Nat} {v v' : Value} {l m : List Int} (h : OB w B v l) (h' : OI w' B' v' m) (hB : w'.heap.size ≤ B) : v.ownBlock = none ∨ v.ownBlock ≠ v'.ownBlock := by
  rcases h.2 with ⟨rfl, _⟩ | ⟨g, cap, cur, rfl, hb, _⟩
  · exact .inl rfl
  · right
    intro e
    have := h'.lt (g := g) (by rw [← e]; rfl)
    omega
theorem int_info : (Tryd.prog.info? 3).map (fun i => (i.zero, i.size, i.bytes)) = some (some (.int .i64 0), 1, 8) := by kernel_rfl
theorem wpList_oi {w : World} {B h : Nat} {y : Int} {v : Value} {l : List Int} {ops : Array Oper} {rest : List Oper} {o : Oper} {a : Act} {Q : Exit → Act → World → Prop} (hgd : o.guard = none) (s x : Operand)
    (ho : o.op = .call { callee := .builtin .append, args := #[s, x], argTypes := #[40, 40] }) (hs : a.eval s = v) (hx : a.eval x = .slice (some ⟨h, 0, none⟩) 1 1) (hv : OI w B v l) (hu : Blk w h 3 #[.int .i64 y]) (hl : l.length ≤ 10000) (hB : B ≤ w.heap.size)
    (hK : ∀ v' w', OI w' B v' (l ++ [y]) → w.grownBy w' v.ownBlock → wpList Tryd.prog ops Q rest (a.put o.dst v') w') : wpList Tryd.prog ops Q (o :: rest) a w := by
  obtain ⟨i0, hi, hz0, hz1, hz2⟩ := info_parts' int_info
  obtain ⟨v', w', e1, e2, e3, _, e5⟩ := run_append_own_at (P := Tryd.prog) (w := w) B 40 o.type 3 i0 (.int .i64 0) 1 8 Tryd.underlying40 hi hz0 hz1 hz2 rfl (by omega) v l.length (l.map (Value.int .i64)) hv ⟨h, 0, none⟩ 1 1 [.int .i64 y] rfl (fun j u hu' => by
    have hj : j = 0 := by
      have := (List.getElem?_eq_some_iff.1 hu').1
      simp at this
      omega
    subst hj
    rw [add_lit0, hu.cell]
    simpa using hu') (fun u hu' => by simp at hu'; subst hu'; rfl) (by unfold maxLen; omega) (by omega) hB
  refine Lib.wpList_append_run w hgd s x _ _ ho v _ hs hx v' w' e1 (hK v' w' ?_ e3)
  unfold OI
  rw [List.length_append, List.map_append]
  exact e2

namespace Oct
def ends (f : Nat → Nat → Int) (k : Nat) : List Int := (List.range k).map fun j => ((encs (rows f (j + 1))).length : Int)
theorem ends_succ (f : Nat → Nat → Int) (k : Nat) : ends f (k + 1) = ends f k ++ [((encs (rows f (k + 1))).length : Int)] := by simp [ends, List.range_succ]
theorem ends_length (f : Nat → Nat → Int) (k : Nat) : (ends f k).length = k := by simp [ends]
theorem ends_at (f : Nat → Nat → Int) {K j : Nat} (h : j < K) : (ends f K)[j]? = some ((encs (rows f (j + 1))).length : Int) := by simp [ends, h]
theorem cut_in {n : Int} {s m : Nat} (h : Fits n s) (r : List Int) (hm : s ≤ m) : num ⟨(enc n s ++ r).take m, 0⟩ = (n, ⟨r.take (m - s), 0⟩) := by
  have : (enc n s ++ r).take m = enc n s ++ r.take (m - s) := by
    rw [List.take_append, enc_length, List.take_of_length_le (by rw [enc_length]; exact hm)]
  rw [this]
  exact numL_enc h _
theorem cut_off {n : Int} {s m : Nat} (h : Fits n s) (r : List Int) (hm : m < s) : ∃ l, num ⟨(enc n s ++ r).take m, 0⟩ = (0, ⟨l, 3⟩) := by
  have : (enc n s ++ r).take m = (enc n s).take m := by
    rw [List.take_append_of_le_length (by rw [enc_length]; omega)]
  rw [this]
  exact numL_cut h hm
end Oct
end Go.Proofs.YtpagdcobhbkabaaDoor
