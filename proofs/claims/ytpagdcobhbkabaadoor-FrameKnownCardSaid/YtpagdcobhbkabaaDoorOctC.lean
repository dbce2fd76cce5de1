/-
  Layer 2: the library's Clone and Grow; CopyBytes; spare, free.
-/
import Derived.Test.YtpagdcobhbkabaaDoorOctB
namespace Go.Proofs.YtpagdcobhbkabaaDoor
open Go.RowKit Go.Sort Go.Shelf Go.Deep Go.WideShapes

theorem clone_any (A : Option Addr) (n c q : Nat) (l : List Int) (w : World) (h : Sl w q A n c l) (hs : n ≤ 100000) :
    Calls Tryd.prog 61 #[.slice A n c] w fun e w' => ∃ v', e = .returned v' ∧ OB w' w.heap.size v' l ∧ Below w.heap.size w w' := by
  obtain ⟨h1, h2, h3, ⟨rfl, rfl, rfl⟩ | ⟨off, rfl, hq, h5⟩⟩ := h
  · have hm : l = [] := List.length_eq_zero_iff.1 h1
    subst hm
    refine (AnyE.slices_Clone_nil layClone 0 0 w).mono ?_
    rintro e w' ⟨rfl, rfl⟩
    exact ⟨_, rfl, OB.nil _ _, Below.refl _ _⟩
  · obtain ⟨i0, hi, hz0, hz1, hz2⟩ := info_parts' byte_info
    refine (AnyE.slices_Clone layClone i0 (.int .u8 0) 1 1 hi hz0 hz1 hz2 rfl (by omega) Tryd.sizeOf5 q off n c (u8 l) w (by rw [u8_length, h1, Nat.mul_one]) (by unfold maxLen; omega) (by omega) (fun j u hu => ?_) (u8_one l)).mono ?_
    · have hj : j < l.length := by
        have := (List.getElem?_eq_some_iff.1 hu).1
        rwa [u8_length] at this
      have : u = .int .u8 l[j] := by simpa [u8, hj] using hu.symm
      rw [this]
      exact h5 j hj
    · rintro e w' ⟨v', rfl, ho, _, hb⟩
      refine ⟨v', rfl, ?_, hb⟩
      unfold OB
      rw [h1]
      exact ho

theorem grow_any (v : Value) (B k : Nat) (l : List Int) (w : World) (h : OB w B v l) (hB : B ≤ w.heap.size) (hs : l.length ≤ 100000) (hk : k ≤ 8) :
    Calls Tryd.prog 68 #[v, .int .i64 k] w fun e w' => ∃ v', e = .returned v' ∧ OB w' B v' l ∧ Below w.heap.size w w' := by
  obtain ⟨i0, hi, hz0, hz1, hz2⟩ := info_parts' byte_info
  rcases h with ⟨g1, ⟨rfl, h0⟩ | ⟨g, cap, cur, rfl, hb, hh, hn, hm, hc, ht⟩⟩
  · have hl0 : l = [] := List.length_eq_zero_iff.1 h0
    subst hl0
    by_cases hk0 : k = 0
    · subst hk0
      refine (Any8.slices_Grow_room layGrow none 0 0 0 w (by omega) (by omega) (by omega) (by omega)).mono ?_
      rintro e w' ⟨rfl, rfl⟩
      exact ⟨_, rfl, OB.nil _ _, Below.refl _ _⟩
    · refine (Any8.slices_Grow_grow layGrow i0 (.int .u8 0) hi hz0 (by omega) none 0 0 k [] w (by omega) (by omega) (by rw [hz2]; omega) (by omega) (by simp) (fun _ => rfl) (fun a ha => by cases ha)).mono ?_
      rintro e w' ⟨rfl, rfl⟩
      refine ⟨_, rfl, ?_, laterA (laterD (Below.refl _ _)) _⟩
      have hG := grownCap_ge w (0 + k) 0 (renGrow.t 25)
      refine ⟨rfl, .inr ⟨_, _, _, rfl, hB, Blk.new w.drew _ _, by simp, ?_, ?_, rfl⟩⟩
      · exact grownCap_le_maxLen w (0 + k) 0 _ (by unfold maxLen; omega)
      · show _ = grownCap w (0 + k) 0 (renGrow.t 25) * 1
        simp [Builtin.zeroCells, Value.cells]
        simp only [Nat.zero_add] at hG
        omega
  · by_cases hr : l.length + k ≤ cap
    · refine (Any8.slices_Grow_room layGrow (some ⟨g, 0, none⟩) l.length cap k w hn (by unfold maxLen at hm; omega) (by omega) hr).mono ?_
      rintro e w' ⟨rfl, rfl⟩
      exact ⟨_, rfl, ⟨g1, .inr ⟨g, cap, cur, rfl, hb, hh, hn, hm, hc, ht⟩⟩, Below.refl _ _⟩
    · refine (Any8.slices_Grow_grow layGrow i0 (.int .u8 0) hi hz0 (by omega) (some ⟨g, 0, none⟩) l.length cap k cur.toList w hn (by omega) (by rw [hz2]; omega) (by omega) (by rw [hz1, ← hc]; simp) (fun h => by cases h) (fun a ha j u hj => ?_)).mono ?_
      · cases ha
        rw [add_lit0, Nat.zero_add, cell_of_row w g j cur _ _ hh]
        simpa using hj
      · rintro e w' ⟨rfl, rfl⟩
        refine ⟨_, rfl, ?_, laterA (laterD (Below.refl _ _)) _⟩
        have hG := grownCap_ge w (l.length + k) cap (renGrow.t 25)
        refine ⟨g1, .inr ⟨_, _, _, rfl, hB, Blk.new w.drew _ _, by omega, ?_, ?_, ?_⟩⟩
        · exact grownCap_le_maxLen w (l.length + k) cap _ (by unfold maxLen; omega)
        · show _ = grownCap w (l.length + k) cap (renGrow.t 25) * 1
          simp [Builtin.zeroCells, Value.cells]
          omega
        · rw [← ht]
          have hcl : cur.toList.length = cap := by simp [hc]
          simp only [Array.toList_append, List.append_assoc]
          rw [List.take_append_of_le_length (by simp [hc]; omega)]

theorem copyb_any (A : Option Addr) (n c : Nat) (l : List Int) (w : World) (h : Rb w A n c l) (hs : n ≤ 100000) :
    Calls Tryd.prog 26 #[.slice A n c] w fun e w' => ∃ v', e = .returned v' ∧ OB w' w.heap.size v' l ∧ Below w.heap.size w w' := by
  have hl := h.1
  go_enter Tryd.func26, Tryd.ntmps26
  go_wp2_with (at_builtin; refine wpList_app (B := w.heap.size) (l := []) (m := l) rfl _ _ rfl rfl rfl (OB.nil _ _) h (by simp; omega) (Nat.le_refl _) ?_)
  intro v' w' ho hg _
  go_wp2
  go_ret
  refine ⟨v', rfl, by simpa using ho, ?_⟩
  exact (Below.refl _ w).grown hg (Nat.le_refl _) (by intro k hk; simp [Value.ownBlock] at hk)
end Go.Proofs.YtpagdcobhbkabaaDoor
