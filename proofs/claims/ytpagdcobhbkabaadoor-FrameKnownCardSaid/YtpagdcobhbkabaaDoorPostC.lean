/-
  Bytes that came in; a struct of three integers by value; an array of eight bytes by value; the table that a row lists.
-/
import Derived.Test.YtpagdcobhbkabaaDoorRead
import Derived.Test.YtpagdcobhbkabaaDoorOctB
import Derived.Lib.SmallJoins
import Derived.OpenShut
import Derived.Lib.LaidTab
import Derived.Deep.DeepHandedRow
namespace Go.Proofs.YtpagdcobhbkabaaDoor
open Go.RowKit Go.ChangeShapes Go.WideShapes Go.Deep Go.WideElems

section PCa
variable {H : Type} {enc : TypeId × Value → H} {w : World}
set_option maxRecDepth 100000 in
theorem rd_bytes {r : Reach} {b0 : Nat} {v : Value} {d : DataW H} {p : List MemPlace}
    (hv : Value.okWide Tryd.prog w r b0 27 v) (h : DataW.Trod enc Tryd.prog w 0 (fun _ => true) true 27 v d p) :
    ∃ (A : Option Addr) (n c : Nat) (l : List Int), v = .slice A n c ∧ Rb w A n c l ∧ Oct.Bys l := by
  obtain ⟨A, n, c, rfl⟩ := okWide_slice Tryd.underlying27 hv
  obtain ⟨fuel, hf⟩ := h
  rcases open_ints Tryd.underlying27 Tryd.underlying5 (by kernel_rfl) hf with ⟨hcs, hx⟩ | ⟨a, len, cap, zs, hcs, _, hl, hm, hz, hx, hcell, hwz⟩
  · simp [Value.cells] at hcs
    obtain ⟨rfl, rfl, rfl⟩ := hcs
    exact ⟨none, 0, 0, [], rfl, ⟨rfl, by omega, by omega, .inl ⟨rfl, rfl, rfl⟩⟩, Oct.Bys.nil⟩
  · simp [Value.cells] at hcs
    obtain ⟨rfl, rfl, rfl⟩ := hcs
    simp at hz
    refine ⟨some a, n, c, zs.take n, rfl, ⟨by rw [List.length_take]; omega, hl, hm, .inr ⟨a, rfl, fun k hk => ?_⟩⟩, fun x hx => ?_⟩
    · rw [List.length_take] at hk
      have := hcell k (by omega)
      rw [this, List.getElem_take, List.getD_eq_getElem?_getD, List.getElem?_eq_getElem (by omega)]
      rfl
    · have := bounds_u8 (hwz x (List.mem_of_mem_take hx))
      omega

theorem open_row3 {P : Program} {base : Nat} {spare : Nat → Bool} {held : Bool} {r : Reach} {b0 : Nat} {t : TypeId} {f0 f1 f2 : Field} {v : Value} {d : DataW H} {p : List MemPlace} (hs : P.underlying t = some (.struct #[f0, f1, f2])) (hone : oneCellFields P #[f0, f1, f2] = true) (hC : P.cellsOf t = 3)
    (h0 : P.underlying f0.type = some (.int .i64)) (h1 : P.underlying f1.type = some (.int .i64)) (h2 : P.underlying f2.type = some (.int .i64)) (hv : Value.okWide P w r b0 t v) (h : DataW.Trod enc P w base spare held t v d p) :
    ∃ x y z : Int, v = .agg #[.int .i64 x, .int .i64 y, .int .i64 z] := by
  obtain ⟨v0, v1, v2, y0, y1, y2, n, rfl, _, _, g0, g1, g2⟩ := Go.Joins.open_agg3 hs hone hC hv h
  obtain ⟨a, e0, _, _⟩ := DataW.trod_int h0 g0
  obtain ⟨b, e1, _, _⟩ := DataW.trod_int h1 g1
  obtain ⟨c, e2, _, _⟩ := DataW.trod_int h2 g2
  simp at e0 e1 e2
  subst e0 e1 e2
  exact ⟨a, b, c, rfl⟩
end PCa
theorem g_limits : Tryd.prog.globalNamed "sounder/octet.limits" = some 0 := by kernel_rfl
theorem lim_of {W : World} (h : Lib.TabIs Tryd.prog W "sounder/octet.limits" .i64 [63, 16383, 1073741823, 9007199254740991]) : Lim W := fun k hk => h.cell g_limits k hk
theorem limits_laid {W : World} {rest : List (String × DataW Unit)} (h : laidMet Tryd.prog (("sounder/octet.limits", Lib.tabData .i64 [63, 16383, 1073741823, 9007199254740991]) :: rest) W) : Lim W :=
  lim_of (Lib.tabIs_of_head g_limits (by kernel_rfl) Tryd.underlying96 Tryd.underlying3 (by kernel_rfl) (by kernel_rfl) h)
/-- A world for the witness: the settled one, the table holding what its initialiser lays. -/
noncomputable def laidWorld (os : Os) : World :=
  { World.holding Tryd.prog os ⟨#[], #[], []⟩ with heap := (World.holding Tryd.prog os ⟨#[], #[], []⟩).heap.modify 0 fun
      | .cells _ t frozen => .cells #[.int .i64 63, .int .i64 16383, .int .i64 1073741823, .int .i64 9007199254740991] t frozen
      | o => o }
end Go.Proofs.YtpagdcobhbkabaaDoor
