/-
  Layer 2: OctetWrites.
-/
import Derived.Test.YtpagdcobhbkabaaDoorOctM
namespace Go.Proofs.YtpagdcobhbkabaaDoor
open Go.RowKit Go.Sort Go.Shelf Go.Deep Go.WideShapes

theorem rb_to {w : World} {n c : Nat} {A : Option Addr} {l : List Int} (h : Rb w A n c l) {K : Nat} (hK : K ≤ n) :
    ∃ A2, (∀ W : World, (Instr.slice 27 (.slice A n c) none (some (.int .i64 (K : Int))) none).run Tryd.prog W = .ok (.slice A2 K c) W) ∧ Rb w A2 K c (l.take K) := by
  obtain ⟨h1, h2, h3, h4⟩ := h
  have he : Tryd.prog.elem 27 = 5 := by simp [Program.elem, Tryd.underlying27]
  have ht' : Tryd.prog.underlying 27 = some (.slice (Tryd.prog.elem 27)) := by rw [he]; exact Tryd.underlying27
  refine ⟨if c = 0 then A else A.map (·.add (0 * 1)), fun W => ?_, by rw [List.length_take, h1]; omega, by omega, h3, ?_⟩
  · rw [run_slice_h W 27 _ _ _ ht' .i64 _ (by omega) (by omega), he, Tryd.sizeOf5 W]
    rfl
  · rcases h4 with ⟨rfl, rfl, rfl⟩ | ⟨a, rfl, h5⟩
    · left; exact ⟨by split <;> rfl, by omega, rfl⟩
    · right
      split
      · refine ⟨a, rfl, fun k hk => ?_⟩
        rw [List.length_take] at hk
        omega
      · refine ⟨_, rfl, fun k hk => ?_⟩
        rw [List.length_take] at hk
        rw [List.getElem_take]
        show w.cell? ((a.add (0 * 1)).add k) = _
        rw [Go.Deep.add_add, Nat.zero_mul, Nat.zero_add]
        exact h5 k (by omega)
theorem bys_putIn {l : List Int} (hl : Oct.Bys l) (n s : Int) : Oct.Bys (Oct.putIn l n s).1 := by
  rcases Oct.putIn_cases l n s with ⟨h, _⟩ | ⟨h, _⟩ | ⟨h, _, _, hf, _⟩ <;> rw [h]
  · exact Oct.Bys.nil
  · exact Oct.Bys.nil
  · exact hl.app (Oct.enc_bys hf)
theorem bys_put {l : List Int} (hl : Oct.Bys l) (n : Int) : Oct.Bys (Oct.put l n).1 := bys_putIn hl n _
theorem OB.rb {w : World} {B : Nat} {v : Value} {l : List Int} (h : OB w B v l) : ∃ A c, v = .slice A l.length c ∧ Rb w A l.length c l := by
  obtain ⟨q, A, c, rfl, _, hs, _⟩ := h.open_
  exact ⟨A, c, rfl, hs.rb⟩
theorem Sp.sl {w : World} {B n c : Nat} {A : Option Addr} {l : List Int} (h : Sp w B A n c l) : ∃ g, Sl w g A n c l := by
  obtain ⟨g, h1, h2, h3, h4, h5⟩ := h
  exact ⟨g, h3⟩

end Go.Proofs.YtpagdcobhbkabaaDoor
