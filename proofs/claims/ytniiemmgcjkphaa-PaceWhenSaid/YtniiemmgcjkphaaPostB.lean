/-
  Arrays of three, four integers by value; an array of three pairs of integers.
-/
import Derived.Test.YtniiemmgcjkphaaPost
namespace Go.Proofs.Ytniiemmgcjkphaa
open Go.RowKit Go.WideShapes Go.ChangeShapes Go.WideElems

theorem open_arr3i {H : Type} {enc : TypeId × Value → H} {P : Program} {W : World} {base b0 : Nat} {spare : Nat → Bool} {held : Bool} {r : Reach} {t e : TypeId} {k : IntKind} {v : Value} {d : DataW H} {p : List MemPlace}
    (ht : P.underlying t = some (.array 3 e)) (he : P.underlying e = some (.int k)) (hc : P.cellsOf t = 3) (hce : P.cellsOf e = 1)
    (hv : Value.okWide P W r b0 t v) (h : DataW.Trod enc P W base spare held t v d p) : ∃ x y z : Int, v = .agg #[.int k x, .int k y, .int k z] := by
  simp only [Value.okWide, ht] at hv
  obtain ⟨⟨cs⟩, rfl, hsz, _⟩ := hv
  rw [hc] at hsz
  match cs, hsz with
  | [c0, c1, c2], _ =>
    obtain ⟨fuel, hf⟩ := h
    obtain ⟨xs, m, _, _, _, hlen, hg⟩ := DataW.trod_array ht hf
    match xs, hlen with
    | [x0, x1, x2], _ =>
      have g0 := hg 0 (by omega)
      have g1 := hg 1 (by omega)
      have g2 := hg 2 (by omega)
      simp [Value.cells, hce] at g0 g1 g2
      obtain ⟨a, e0, _, _⟩ := DataW.trod_int he g0
      obtain ⟨b, e1, _, _⟩ := DataW.trod_int he g1
      obtain ⟨c, e2, _, _⟩ := DataW.trod_int he g2
      simp at e0 e1 e2
      subst e0 e1 e2
      exact ⟨a, b, c, rfl⟩

theorem open_arr4i {H : Type} {enc : TypeId × Value → H} {P : Program} {W : World} {base b0 : Nat} {spare : Nat → Bool} {held : Bool} {r : Reach} {t e : TypeId} {k : IntKind} {v : Value} {d : DataW H} {p : List MemPlace}
    (ht : P.underlying t = some (.array 4 e)) (he : P.underlying e = some (.int k)) (hc : P.cellsOf t = 4) (hce : P.cellsOf e = 1)
    (hv : Value.okWide P W r b0 t v) (h : DataW.Trod enc P W base spare held t v d p) : ∃ x y z u : Int, v = .agg #[.int k x, .int k y, .int k z, .int k u] := by
  simp only [Value.okWide, ht] at hv
  obtain ⟨⟨cs⟩, rfl, hsz, _⟩ := hv
  rw [hc] at hsz
  match cs, hsz with
  | [c0, c1, c2, c3], _ =>
    obtain ⟨fuel, hf⟩ := h
    obtain ⟨xs, m, _, _, _, hlen, hg⟩ := DataW.trod_array ht hf
    match xs, hlen with
    | [x0, x1, x2, x3], _ =>
      have g0 := hg 0 (by omega)
      have g1 := hg 1 (by omega)
      have g2 := hg 2 (by omega)
      have g3 := hg 3 (by omega)
      simp [Value.cells, hce] at g0 g1 g2 g3
      obtain ⟨a, e0, _, _⟩ := DataW.trod_int he g0
      obtain ⟨b, e1, _, _⟩ := DataW.trod_int he g1
      obtain ⟨c, e2, _, _⟩ := DataW.trod_int he g2
      obtain ⟨d, e3, _, _⟩ := DataW.trod_int he g3
      simp at e0 e1 e2 e3
      subst e0 e1 e2 e3
      exact ⟨a, b, c, d, rfl⟩

/-- An array of three arrays of two integers. -/
theorem open_arr32i {H : Type} {enc : TypeId × Value → H} {P : Program} {W : World} {base b0 : Nat} {spare : Nat → Bool} {held : Bool} {r : Reach} {t s e : TypeId} {k : IntKind} {v : Value} {d : DataW H} {p : List MemPlace}
    (ht : P.underlying t = some (.array 3 s)) (hs : P.underlying s = some (.array 2 e)) (he : P.underlying e = some (.int k)) (hc : P.cellsOf t = 6) (hcs : P.cellsOf s = 2) (hce : P.cellsOf e = 1)
    (hv : Value.okWide P W r b0 t v) (h : DataW.Trod enc P W base spare held t v d p) : ∃ a b c d e f : Int, v = .agg #[.int k a, .int k b, .int k c, .int k d, .int k e, .int k f] := by
  simp only [Value.okWide, ht] at hv
  obtain ⟨⟨cs⟩, rfl, hsz, _⟩ := hv
  rw [hc] at hsz
  match cs, hsz with
  | [c0, c1, c2, c3, c4, c5], _ =>
    obtain ⟨fuel, hf⟩ := h
    obtain ⟨xs, m, _, _, _, hlen, hg⟩ := DataW.trod_array ht hf
    match xs, hlen with
    | [x0, x1, x2], _ =>
      have g0 := hg 0 (by omega)
      have g1 := hg 1 (by omega)
      have g2 := hg 2 (by omega)
      simp [Value.cells, hcs] at g0 g1 g2
      have two : ∀ {c c' : Value} {x : DataW H × List MemPlace}, DataW.trod enc P W base spare held m s [c, c'] = some x → ∃ a b : Int, c = .int k a ∧ c' = .int k b := by
        intro c c' x hx
        obtain ⟨ys, m', _, _, _, hl2, hg2⟩ := DataW.trod_array hs hx
        match ys, hl2 with
        | [y0, y1], _ =>
          have k0 := hg2 0 (by omega)
          have k1 := hg2 1 (by omega)
          simp [hce] at k0 k1
          obtain ⟨a, e0, _, _⟩ := DataW.trod_int he k0
          obtain ⟨b, e1, _, _⟩ := DataW.trod_int he k1
          simp at e0 e1
          exact ⟨a, b, e0, e1⟩
      obtain ⟨a, b, rfl, rfl⟩ := two g0
      obtain ⟨c, d, rfl, rfl⟩ := two g1
      obtain ⟨e, f, rfl, rfl⟩ := two g2
      exact ⟨a, b, c, d, e, f, rfl⟩

end Go.Proofs.Ytniiemmgcjkphaa
