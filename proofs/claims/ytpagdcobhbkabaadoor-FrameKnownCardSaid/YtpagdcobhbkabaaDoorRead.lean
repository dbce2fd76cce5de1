/-
  Slices that came in, read: integers, and structs of integers.
-/
import Derived.Test.YtpagdcobhbkabaaDoorKit
import Derived.Test.YtpagdcobhbkabaaDoorPost
import Derived.Deep.Slices
import Derived.Deep.Fields
import Derived.ChangeSlices
namespace Go.Proofs.YtpagdcobhbkabaaDoor
open Go.RowKit Go.ChangeShapes Go.WideShapes Go.Deep

def numAt (w : World) (b off : Nat) : Int := match w.cell? ⟨b, off, none⟩ with | some (.int _ n) => n | _ => 0
theorem numAt_of {w : World} {b off : Nat} {k : IntKind} {n : Int} (h : w.cell? ⟨b, off, none⟩ = some (.int k n)) : numAt w b off = n := by unfold numAt; rw [h]

/-- A slice of n elements of m integers each: element k's j-th is f k j. -/
def Rd (w : World) (A : Option Addr) (m n : Nat) (f : Nat → Nat → Int) : Prop :=
  0 < n → ∃ b off, A = some ⟨b, off, none⟩ ∧ b < w.heap.size ∧ ∀ k, k < n → ∀ j, j < m → w.cell? ⟨b, off + (k * m + j), none⟩ = some (.int .i64 (f k j))

theorem Rd.later {w w' : World} {A : Option Addr} {m n : Nat} {f : Nat → Nat → Int} (h : Rd w A m n f) (hb : Below w.heap.size w w') : Rd w' A m n f := fun hn => by
  obtain ⟨b, off, rfl, hlt, hc⟩ := h hn
  exact ⟨b, off, rfl, Nat.lt_of_lt_of_le hlt hb.size, fun k hk j hj => (hb.cell (p := ⟨b, _, none⟩) hlt).trans (hc k hk j hj)⟩

theorem lit_zero : (Lit.int .i64 0).wf = true := by decide

section
variable {H : Type} {enc : TypeId × Value → H} {P : Program} {w : World} {base : Nat} {spare : Nat → Bool} {held : Bool}

/-- A slice of structs of one-cell fields (after the kit's page on structs). -/
theorem open_slice_fields {t e : TypeId} {fs : Array Field} {fuel : Nat} {cs : List Value} {x : DataW H × List MemPlace} (ht : P.underlying t = some (.slice e)) (he : P.underlying e = some (.struct fs))
    (hone : oneCellFields P fs = true) (hC : P.cellsOf e = fs.size) (h : DataW.trod enc P w base spare held fuel t cs = some x) :
    (cs = [.slice none 0 0] ∧ x = (.nil, [])) ∨
    ∃ (a : Addr) (len cap m : Nat), cs = [.slice (some a) len cap] ∧ len ≤ cap ∧ cap ≤ maxLen ∧ m = (if spare a.block then cap else len) ∧
      ∀ i, i < m → ∃ (n : Nat), ∀ (j : Nat) (f : Field), fs[j]? = some f → ∃ (v : Value) (y : DataW H × List MemPlace), w.cell? (a.add (i * fs.size + j)) = some v ∧ DataW.trod enc P w base spare held n f.type [v] = some y := by
  rcases open_slice ht h with h0 | ⟨a, len, cap, m, n, D, Pl, hcs, hb, hl, hm, hmm, hx, hi⟩
  · exact .inl h0
  · refine .inr ⟨a, len, cap, m, hcs, hl, hm, hmm, fun i him => ?_⟩
    obtain ⟨cs', hc, ht'⟩ := hi i him
    rw [hC] at hc
    obtain ⟨ys, n', hn', hy, hlen, hyl, hf⟩ := DataW.trod_struct he ht'
    obtain ⟨_, hcl, hat⟩ := World.cells?_some hc
    refine ⟨n', fun j f hj => ?_⟩
    obtain ⟨ho, hk⟩ := hone_of hone j f hj
    have hjl : j < fs.size := (Array.getElem?_eq_some_iff.1 hj).1
    have hcell := hat j hjl
    have hv : cs'[j]? = some (cs'[j]'(by omega)) := List.getElem?_eq_getElem (by omega)
    have h1 := hf j f hj
    rw [ho, hk] at h1
    have hone' : (cs'.drop j).take 1 = [cs'[j]'(by omega)] := by
      rw [List.drop_eq_getElem_cons (by omega)]
      rfl
    rw [hone'] at h1
    have hys : ys[j]? = some (ys[j]'(by omega)) := List.getElem?_eq_getElem (by omega)
    refine ⟨_, _, ?_, h1.trans hys⟩
    rw [← Go.Deep.add_add, hcell, hv]

/-- A slice of integers. -/
theorem rd_ints {r : Reach} {b0 : Nat} {t e : TypeId} {v : Value} {d : DataW H} {p : List MemPlace} (ht : P.underlying t = some (.slice e)) (he : P.underlying e = some (.int .i64)) (hc : P.cellsOf e = 1)
    (hv : Value.okWide P w r b0 t v) (h : DataW.Trod enc P w 0 (fun _ => true) true t v d p) :
    ∃ (A : Option Addr) (n c : Nat) (f : Nat → Nat → Int), v = .slice A n c ∧ n ≤ 9223372036854775807 ∧ Rd w A 1 n f ∧ (∀ k j, (Lit.int .i64 (f k j)).wf = true) ∧ n ≤ c ∧ c ≤ 9223372036854775807 := by
  obtain ⟨A, n, c, rfl⟩ := okWide_slice ht hv
  obtain ⟨fuel, hf⟩ := h
  rcases open_ints ht he hc hf with ⟨hcs, hx⟩ | ⟨a, len, cap, zs, hcs, _, hl, hm, hz, hx, hcell, hwz⟩
  · simp [Value.cells] at hcs
    obtain ⟨rfl, rfl, rfl⟩ := hcs
    exact ⟨none, 0, 0, fun _ _ => 0, rfl, by omega, fun h => absurd h (by omega), fun _ _ => lit_zero, by omega, by omega⟩
  · simp [Value.cells] at hcs
    obtain ⟨rfl, rfl, rfl⟩ := hcs
    simp at hz
    refine ⟨some a, n, c, fun k _ => zs.getD k 0, rfl, by unfold maxLen at hm; omega, fun hn => ?_, fun k _ => ?_, hl, by unfold maxLen at hm; omega⟩
    · obtain ⟨b, off, rfl, hj⟩ := ints_at hcell (by omega)
      refine ⟨b, off, rfl, block_lt_of_cell (hj 0 (by omega)), fun k hk j hj' => ?_⟩
      have hj0 : j = 0 := by omega
      subst hj0
      have := hj k (by omega)
      rw [show off + (k * 1 + 0) = off + k by omega]
      exact this
    · show (Lit.int .i64 (zs.getD k 0)).wf = true
      by_cases hk : k < zs.length
      · rw [List.getD_eq_getElem?_getD, List.getElem?_eq_getElem hk]
        exact hwz _ (List.getElem_mem hk)
      · rw [List.getD_eq_getElem?_getD, List.getElem?_eq_none (by omega)]
        exact lit_zero

/-- A slice of structs of m integers. -/
theorem rd_structs {r : Reach} {b0 : Nat} {t e : TypeId} {fs : Array Field} {v : Value} {d : DataW H} {p : List MemPlace} (ht : P.underlying t = some (.slice e)) (he : P.underlying e = some (.struct fs))
    (hone : oneCellFields P fs = true) (hC : P.cellsOf e = fs.size) (hint : ∀ (j : Nat) (f : Field), fs[j]? = some f → P.underlying f.type = some (.int .i64)) (hpos : 0 < fs.size)
    (hv : Value.okWide P w r b0 t v) (h : DataW.Trod enc P w 0 (fun _ => true) true t v d p) :
    ∃ (A : Option Addr) (n c : Nat) (f : Nat → Nat → Int), v = .slice A n c ∧ n ≤ 9223372036854775807 ∧ Rd w A fs.size n f ∧ (∀ k j, (Lit.int .i64 (f k j)).wf = true) ∧ n ≤ c ∧ c ≤ 9223372036854775807 := by
  obtain ⟨A, n, c, rfl⟩ := okWide_slice ht hv
  obtain ⟨fuel, hf⟩ := h
  rcases open_slice_fields ht he hone hC hf with ⟨hcs, hx⟩ | ⟨a, len, cap, m, hcs, hl, hm, hmm, hi⟩
  · simp [Value.cells] at hcs
    obtain ⟨rfl, rfl, rfl⟩ := hcs
    exact ⟨none, 0, 0, fun _ _ => 0, rfl, by omega, fun h => absurd h (by omega), fun _ _ => lit_zero, by omega, by omega⟩
  · simp [Value.cells] at hcs
    obtain ⟨rfl, rfl, rfl⟩ := hcs
    simp at hmm
    have hat : ∀ k, k < n → ∀ j, j < fs.size → ∃ x : Int, w.cell? (a.add (k * fs.size + j)) = some (.int .i64 x) ∧ (Lit.int .i64 x).wf = true := by
      intro k hk j hj
      obtain ⟨n', hn'⟩ := hi k (by omega)
      obtain ⟨v, y, hc, ht'⟩ := hn' j _ (Array.getElem?_eq_getElem hj)
      obtain ⟨x, e0, _, wx⟩ := DataW.trod_int (hint j _ (Array.getElem?_eq_getElem hj)) ht'
      simp at e0
      subst e0
      exact ⟨x, hc, wx⟩
    by_cases hn : 0 < n
    · obtain ⟨x0, hc0, _⟩ := hat 0 hn 0 hpos
      obtain ⟨b, off, spot⟩ := a
      have hspot : spot = none := by
        have := World.cell?_spot hc0
        simpa [Addr.add] using this
      subst hspot
      refine ⟨_, n, c, fun k j => if k < n ∧ j < fs.size then numAt w b (off + (k * fs.size + j)) else 0, rfl, by unfold maxLen at hm; omega, fun _ => ⟨b, off, rfl, ?_, fun k hk j hj => ?_⟩, fun k j => ?_, hl, by unfold maxLen at hm; omega⟩
      · rw [Go.WideShapes.add_plain] at hc0
        exact block_lt_of_cell hc0
      · obtain ⟨x, hx, _⟩ := hat k hk j hj
        rw [Go.WideShapes.add_plain] at hx
        show w.cell? ⟨b, off + (k * fs.size + j), none⟩ = some (.int .i64 (if k < n ∧ j < fs.size then numAt w b (off + (k * fs.size + j)) else 0))
        rw [if_pos ⟨hk, hj⟩, numAt_of hx]
        exact hx
      · show (Lit.int .i64 (if k < n ∧ j < fs.size then numAt w b (off + (k * fs.size + j)) else 0)).wf = true
        split
        · rename_i h
          obtain ⟨x, hx, wx⟩ := hat k h.1 j h.2
          rw [Go.WideShapes.add_plain] at hx
          rw [numAt_of hx]
          exact wx
        · exact lit_zero
    · exact ⟨_, n, c, fun _ _ => 0, rfl, by omega, fun h => absurd h hn, fun _ _ => lit_zero, hl, by unfold maxLen at hm; omega⟩
end

end Go.Proofs.YtpagdcobhbkabaaDoor
