/-
  Bytes that came in; a struct of three integers by value; an array of eight bytes by value; the table that a row lists.
-/
import Derived.Test.YtpmfaocegkjhmaaDoorRead
import Derived.Test.YtpmfaocegkjhmaaDoorOctB
import Derived.Lib.SmallJoins
import Derived.OpenShut
import Derived.Lib.LaidTab
import Derived.Deep.DeepHandedRow
namespace Go.Proofs.YtpmfaocegkjhmaaDoor
open Go.RowKit Go.ChangeShapes Go.WideShapes Go.Deep Go.WideElems

section
variable {H : Type} {enc : TypeId × Value → H} {w : World}
theorem rd_bytes {r : Reach} {b0 : Nat} {v : Value} {d : DataW H} {p : List MemPlace}
    (hv : Value.okWide Tryd.prog w r b0 22 v) (h : DataW.Trod enc Tryd.prog w 0 (fun _ => true) true 22 v d p) :
    ∃ (A : Option Addr) (n c : Nat) (l : List Int), v = .slice A n c ∧ Rb w A n c l ∧ Oct.Bys l := by
  obtain ⟨A, n, c, rfl⟩ := okWide_slice Tryd.underlying22 hv
  obtain ⟨fuel, hf⟩ := h
  rcases open_ints Tryd.underlying22 Tryd.underlying5 (by kernel_rfl) hf with ⟨hcs, hx⟩ | ⟨a, len, cap, zs, hcs, _, hl, hm, hz, hx, hcell, hwz⟩
  · simp [Value.cells] at hcs
    obtain ⟨rfl, rfl, rfl⟩ := hcs
    exact ⟨none, 0, 0, [], rfl, ⟨rfl, by omega, by omega, .inl ⟨rfl, rfl, rfl⟩⟩, Oct.Bys.nil⟩
  · simp [Value.cells] at hcs
    obtain ⟨rfl, rfl, rfl⟩ := hcs
    simp at hz
    refine ⟨some a, n, c, zs.take n, rfl, ⟨by rw [List.length_take]; omega, hl, hm, .inr ⟨a, rfl, fun k hk => ?_⟩⟩, fun x hx => ?_⟩
    · rw [List.length_take] at hk
      have := hcell k (by omega)
      rw [this, List.getElem_take, List.getD_eq_getElem?_getD, List.getElem?_eq_getElem (by omega)]
      rfl
    · have := bounds_u8 (hwz x (List.mem_of_mem_take hx))
      omega

theorem open_row3 {P : Program} {base : Nat} {spare : Nat → Bool} {held : Bool} {r : Reach} {b0 : Nat} {t : TypeId} {f0 f1 f2 : Field} {v : Value} {d : DataW H} {p : List MemPlace} (hs : P.underlying t = some (.struct #[f0, f1, f2])) (hone : oneCellFields P #[f0, f1, f2] = true) (hC : P.cellsOf t = 3)
    (h0 : P.underlying f0.type = some (.int .i64)) (h1 : P.underlying f1.type = some (.int .i64)) (h2 : P.underlying f2.type = some (.int .i64)) (hv : Value.okWide P w r b0 t v) (h : DataW.Trod enc P w base spare held t v d p) :
    ∃ x y z : Int, v = .agg #[.int .i64 x, .int .i64 y, .int .i64 z] := by
  obtain ⟨v0, v1, v2, y0, y1, y2, n, rfl, _, _, g0, g1, g2⟩ := Go.Joins.open_agg3 hs hone hC hv h
  obtain ⟨a, e0, _, _⟩ := DataW.trod_int h0 g0
  obtain ⟨b, e1, _, _⟩ := DataW.trod_int h1 g1
  obtain ⟨c, e2, _, _⟩ := DataW.trod_int h2 g2
  simp at e0 e1 e2
  subst e0 e1 e2
  exact ⟨a, b, c, rfl⟩
theorem open_arr8b {r : Reach} {b0 : Nat} {v : Value} {d : DataW H} {p : List MemPlace}
    (hv : Value.okWide Tryd.prog w r b0 46 v) (h : DataW.Trod enc Tryd.prog w 0 (fun _ => true) true 46 v d p) :
    ∃ x0 x1 x2 x3 x4 x5 x6 x7 : Int, v = .agg #[.int .u8 x0, .int .u8 x1, .int .u8 x2, .int .u8 x3, .int .u8 x4, .int .u8 x5, .int .u8 x6, .int .u8 x7] ∧ Oct.Bys [x0, x1, x2, x3, x4, x5, x6, x7] := by
  have hc : Tryd.prog.cellsOf 46 = 8 := by kernel_rfl
  have hce : Tryd.prog.cellsOf 5 = 1 := by kernel_rfl
  simp only [Value.okWide, Tryd.underlying46] at hv
  obtain ⟨⟨cs⟩, rfl, hsz, _⟩ := hv
  rw [hc] at hsz
  match cs, hsz with
  | [c0, c1, c2, c3, c4, c5, c6, c7], _ =>
    obtain ⟨fuel, hf⟩ := h
    obtain ⟨xs, m, _, _, _, hlen, hg⟩ := DataW.trod_array Tryd.underlying46 hf
    match xs, hlen with
    | [y0, y1, y2, y3, y4, y5, y6, y7], _ =>
      have g0 := hg 0 (by omega)
      have g1 := hg 1 (by omega)
      have g2 := hg 2 (by omega)
      have g3 := hg 3 (by omega)
      have g4 := hg 4 (by omega)
      have g5 := hg 5 (by omega)
      have g6 := hg 6 (by omega)
      have g7 := hg 7 (by omega)
      simp [Value.cells, hce] at g0 g1 g2 g3 g4 g5 g6 g7
      obtain ⟨a0, e0, _, w0⟩ := DataW.trod_int Tryd.underlying5 g0
      obtain ⟨a1, e1, _, w1⟩ := DataW.trod_int Tryd.underlying5 g1
      obtain ⟨a2, e2, _, w2⟩ := DataW.trod_int Tryd.underlying5 g2
      obtain ⟨a3, e3, _, w3⟩ := DataW.trod_int Tryd.underlying5 g3
      obtain ⟨a4, e4, _, w4⟩ := DataW.trod_int Tryd.underlying5 g4
      obtain ⟨a5, e5, _, w5⟩ := DataW.trod_int Tryd.underlying5 g5
      obtain ⟨a6, e6, _, w6⟩ := DataW.trod_int Tryd.underlying5 g6
      obtain ⟨a7, e7, _, w7⟩ := DataW.trod_int Tryd.underlying5 g7
      simp at e0 e1 e2 e3 e4 e5 e6 e7
      subst e0 e1 e2 e3 e4 e5 e6 e7
      refine ⟨a0, a1, a2, a3, a4, a5, a6, a7, rfl, fun x hx => ?_⟩
      have b0 := bounds_u8 w0
      have b1 := bounds_u8 w1
      have b2 := bounds_u8 w2
      have b3 := bounds_u8 w3
      have b4 := bounds_u8 w4
      have b5 := bounds_u8 w5
      have b6 := bounds_u8 w6
      have b7 := bounds_u8 w7
      simp only [List.mem_cons, List.not_mem_nil, or_false] at hx
      rcases hx with rfl | rfl | rfl | rfl | rfl | rfl | rfl | rfl <;> omega
end
theorem g_limits : Tryd.prog.globalNamed "sounder/octet.limits" = some 0 := by kernel_rfl
theorem lim_of {W : World} (h : Lib.TabIs Tryd.prog W "sounder/octet.limits" .i64 [63, 16383, 1073741823, 9007199254740991]) : Lim W := fun k hk => h.cell g_limits k hk
theorem limits_laid {W : World} {rest : List (String × DataW Unit)} (h : laidMet Tryd.prog (("sounder/octet.limits", Lib.tabData .i64 [63, 16383, 1073741823, 9007199254740991]) :: rest) W) : Lim W :=
  lim_of (Lib.tabIs_of_head g_limits (by kernel_rfl) Tryd.underlying62 Tryd.underlying3 (by kernel_rfl) (by kernel_rfl) h)
/-- A world for the witness: the settled one, the table holding what its initialiser lays. -/
noncomputable def laidWorld (os : Os) : World :=
  { World.holding Tryd.prog os ⟨#[], #[], []⟩ with heap := (World.holding Tryd.prog os ⟨#[], #[], []⟩).heap.modify 0 fun
      | .cells _ t frozen => .cells #[.int .i64 63, .int .i64 16383, .int .i64 1073741823, .int .i64 9007199254740991] t frozen
      | o => o }
end Go.Proofs.YtpmfaocegkjhmaaDoor
