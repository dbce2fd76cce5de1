/-
  Layer 2: the program's reader: NewReader, Left, Err, End, Take.
-/
import Derived.Test.YtpmfaocegkjhmaaDoorOctD
import Derived.Test.YtpmfaocegkjhmaaDoorOnly
namespace Go.Proofs.YtpmfaocegkjhmaaDoor
open Go.RowKit Go.Sort Go.Shelf Go.Deep Go.WideShapes

/-- A reader of the program's, at p, its bytes in the block q. -/
def Rdr (w : World) (p q : Nat) (s : Oct.St) : Prop := ∃ A n c, Blk w p 57 #[.slice A n c, .bool true, .int .i64 s.e] ∧ Sl w q A n c s.l ∧ Oct.Bys s.l ∧ n ≤ 1000
theorem Rdr.later {w w' : World} {p q : Nat} {s : Oct.St} (h : Rdr w p q s) (hb : Below w.heap.size w w') : Rdr w' p q s := by
  obtain ⟨A, n, c, h1, h2, h3⟩ := h
  exact ⟨A, n, c, h1.later hb, h2.later hb, h3⟩
theorem Rdr.lt {w : World} {p q : Nat} {s : Oct.St} (h : Rdr w p q s) : p < w.heap.size := by
  obtain ⟨A, n, c, h1, h2, h3⟩ := h
  exact h1.lt
theorem Rdr.only {w w' : World} {p q : Nat} {s : Oct.St} {F : Nat → Prop} (h : Rdr w p q s) (ho : Only F w w') (hp : ¬ F p) (hq : ¬ F q) : Rdr w' p q s := by
  obtain ⟨A, n, c, h1, h2, h3⟩ := h
  exact ⟨A, n, c, (ho.block p h1.lt hp).trans h1, h2.far ho.size (fun hlt => ho.block q hlt hq), h3⟩

theorem newr_any (A : Option Addr) (n c q : Nat) (l : List Int) (w : World) (h : Sl w q A n c l) (hs : n ≤ 1000) (hl : Oct.Bys l) :
    Calls Tryd.prog 23 #[.slice A n c] w fun e w' => ∃ p q', e = .returned (.pointer (some ⟨p, 0, none⟩)) ∧ Rdr w' p q' ⟨l, 0⟩ ∧ w.heap.size ≤ p ∧ w.heap.size ≤ q' ∧ p ≠ q' ∧ Below w.heap.size w w' := by
  have hc := clone_any A n c q l w h (by omega)
  have hn := h.1
  clear h
  go_enter Tryd.func23, Tryd.ntmps23
  go_wp2_with fail
  refine hc.mono ?_
  rintro e w1 ⟨v', rfl, ho, hb⟩
  obtain ⟨q', A', c', rfl, hq, hsl, hob⟩ := ho.open_
  rw [hn] at hsl
  have hq1 : q' < w1.heap.size ∨ A' = none := by
    rcases hsl.2.2.2 with ⟨h1, _⟩ | ⟨off, _, h2, _⟩
    · exact .inr h1
    · exact .inl h2
  clear hob
  go_wp2
  go_ret
  have hsz := hb.size
  rcases hq1 with hq1 | rfl
  · exact ⟨_, q', rfl, ⟨A', n, c', by rw [← hn]; exact Blk.new w1 _ _, hsl.later (laterA (Below.refl _ _) _), hl, hs⟩, hsz, hq, by omega, laterA hb _⟩
  · refine ⟨_, w1.heap.size + 1, rfl, ⟨none, n, c', by rw [← hn]; exact Blk.new w1 _ _, ?_, hl, hs⟩, hsz, by omega, by omega, laterA hb _⟩
    obtain ⟨h1, h2, h3, ⟨_, h4, h5⟩ | ⟨off, h4, _⟩⟩ := hsl
    · exact ⟨h1, h2, h3, .inl ⟨rfl, h4, h5⟩⟩
    · cases h4

theorem none_any (p : Nat) (u0 u2 : Value) (b : Bool) (w : World) (h : Blk w p 57 #[u0, .bool b, u2]) :
    Calls Tryd.prog 42 #[.pointer (some ⟨p, 0, none⟩)] w fun e w' => e = .returned (.bool (!b)) ∧ w = w' := by
  have y1 := h.cell 1
  simp at y1
  clear h
  go_enter Tryd.func42, Tryd.ntmps42
  go_wp2
  go_ret
  exact ⟨rfl, rfl⟩
theorem none_nil (w : World) : Calls Tryd.prog 42 #[.pointer none] w fun e w' => e = .returned (.bool true) ∧ w = w' := by
  go_enter Tryd.func42, Tryd.ntmps42
  go_wp2
  go_ret
  exact ⟨rfl, rfl⟩

theorem err_any (p q : Nat) (s : Oct.St) (w : World) (h : Rdr w p q s) : Calls Tryd.prog 25 #[.pointer (some ⟨p, 0, none⟩)] w fun e w' => e = .returned (.int .i64 s.e) ∧ w = w' := by
  obtain ⟨A, n, c, hx, _⟩ := h
  have hn := none_any p _ _ _ w hx
  have y2 := hx.cell 2
  simp at y2
  clear hx
  obtain ⟨l, e⟩ := s
  go_enter Tryd.func25, Tryd.ntmps25
  go_wp2_with fail
  refine hn.mono ?_
  rintro e w1 ⟨rfl, rfl⟩
  go_wp2
  go_ret
  exact ⟨rfl, rfl⟩
theorem left_any (p q : Nat) (s : Oct.St) (w : World) (h : Rdr w p q s) : Calls Tryd.prog 27 #[.pointer (some ⟨p, 0, none⟩)] w fun e w' => e = .returned (.int .i64 s.l.length) ∧ w = w' := by
  obtain ⟨A, n, c, hx, hsl, _⟩ := h
  have hn := none_any p _ _ _ w hx
  have y0 := hx.cell 0
  simp at y0
  have hl := hsl.1
  rw [hl]
  clear hx hsl
  go_enter Tryd.func27, Tryd.ntmps27
  go_wp2_with fail
  refine hn.mono ?_
  rintro e w1 ⟨rfl, rfl⟩
  go_wp2
  go_ret
  exact ⟨rfl, rfl⟩
theorem end_any (p q : Nat) (s : Oct.St) (w : World) (h : Rdr w p q s) : Calls Tryd.prog 26 #[.pointer (some ⟨p, 0, none⟩)] w fun e w' => e = .returned (.int .i64 (Oct.fin s)) ∧ w = w' := by
  have he := err_any p q s w h
  obtain ⟨A, n, c, hx, hsl, _⟩ := h
  have y0 := hx.cell 0
  simp at y0
  have hl := hsl.1
  unfold Oct.fin
  clear hx hsl
  obtain ⟨l, e⟩ := s
  simp only at hl he ⊢
  have hl2 : l = [] ↔ n = 0 := by rw [← hl]; exact List.length_eq_zero_iff.symm
  simp only [hl2]
  clear hl2 hl
  by_cases e0 : e = 0
  · subst e0
    by_cases n0 : n = 0
    · subst n0
      go_enter Tryd.func26, Tryd.ntmps26
      go_wp2_with fail
      refine he.mono ?_
      rintro e w1 ⟨rfl, rfl⟩
      go_wp2
      go_ret
      exact ⟨rfl, rfl⟩
    · have n1 : (n : Int) > 0 := by omega
      rw [if_pos rfl, if_neg n0]
      go_enter Tryd.func26, Tryd.ntmps26
      go_wp2_with fail
      refine he.mono ?_
      rintro e w1 ⟨rfl, rfl⟩
      go_wp2
      go_ret
      exact ⟨rfl, rfl⟩
  · rw [if_neg e0]
    go_enter Tryd.func26, Tryd.ntmps26
    go_wp2_with fail
    refine he.mono ?_
    rintro e w1 ⟨rfl, rfl⟩
    go_wp2
    go_ret
    exact ⟨rfl, rfl⟩

/-! ### Slices of slices -/
theorem slice_from {w : World} {q n c : Nat} {A : Option Addr} {l : List Int} (h : Sl w q A n c l) {K : Nat} (hK : K ≤ n) :
    ∃ A2, (∀ W : World, (Instr.slice 22 (.slice A n c) (some (.int .i64 (K : Int))) none none).run Tryd.prog W = .ok (.slice A2 (n - K) (c - K)) W) ∧ Sl w q A2 (n - K) (c - K) (l.drop K) := by
  obtain ⟨h1, h2, h3, h4⟩ := h
  have he : Tryd.prog.elem 22 = 5 := by simp [Program.elem, Tryd.underlying22]
  have ht' : Tryd.prog.underlying 22 = some (.slice (Tryd.prog.elem 22)) := by rw [he]; exact Tryd.underlying22
  refine ⟨if c = K then A else A.map (·.add (K * 1)), fun W => ?_, by rw [List.length_drop, h1], by omega, by unfold maxLen at *; omega, ?_⟩
  · rw [run_slice_l W 22 _ _ _ ht' .i64 _ (by omega) (by omega), he, Tryd.sizeOf5 W]
    rfl
  · rcases h4 with ⟨rfl, rfl, rfl⟩ | ⟨off, rfl, hq, h5⟩
    · left; exact ⟨by split <;> rfl, by omega, by omega⟩
    · right
      by_cases hc : c = K
      · rw [if_pos hc]
        refine ⟨off, rfl, hq, fun k hk => ?_⟩
        rw [List.length_drop] at hk
        omega
      · rw [if_neg hc]
        refine ⟨off + K, ?_, hq, fun k hk => ?_⟩
        · rw [Nat.mul_one, Option.map_some, add_lit0]
        · rw [List.length_drop] at hk
          rw [List.getElem_drop, Nat.add_assoc]
          exact h5 (K + k) (by omega)
theorem slice_to {w : World} {q n c : Nat} {A : Option Addr} {l : List Int} (h : Sl w q A n c l) {K : Nat} (hK : K ≤ n) :
    ∃ A2, (∀ W : World, (Instr.slice 22 (.slice A n c) none (some (.int .i64 (K : Int))) none).run Tryd.prog W = .ok (.slice A2 K c) W) ∧ Sl w q A2 K c (l.take K) := by
  obtain ⟨h1, h2, h3, h4⟩ := h
  have he : Tryd.prog.elem 22 = 5 := by simp [Program.elem, Tryd.underlying22]
  have ht' : Tryd.prog.underlying 22 = some (.slice (Tryd.prog.elem 22)) := by rw [he]; exact Tryd.underlying22
  refine ⟨if c = 0 then A else A.map (·.add (0 * 1)), fun W => ?_, by rw [List.length_take, h1]; omega, by omega, h3, ?_⟩
  · rw [run_slice_h W 22 _ _ _ ht' .i64 _ (by omega) (by omega), he, Tryd.sizeOf5 W]
    rfl
  · rcases h4 with ⟨rfl, rfl, rfl⟩ | ⟨off, rfl, hq, h5⟩
    · left; exact ⟨by split <;> rfl, by omega, rfl⟩
    · right
      refine ⟨off, ?_, hq, fun k hk => ?_⟩
      · split
        · rfl
        · rw [Nat.zero_mul, Option.map_some, add_lit0, Nat.add_zero]
      · rw [List.length_take] at hk
        rw [List.getElem_take]
        exact h5 k (by omega)

set_option maxHeartbeats 2000000 in
theorem take_any (p q : Nat) (k : Int) (s : Oct.St) (w : World) (h : Rdr w p q s) (hpq : p ≠ q) :
    Calls Tryd.prog 31 #[.pointer (some ⟨p, 0, none⟩), .int .i64 k] w fun e w' => ∃ v, e = .returned v ∧ OB w' w.heap.size v (Oct.take k s).1 ∧ Rdr w' p q (Oct.take k s).2 ∧ Only (· = p) w w' := by
  have h0 := Lib.hid h
  obtain ⟨A, n, c, hx, hsl, hbys, hs⟩ := h
  have hn := none_any p _ _ _ w hx
  have y0 := hx.cell 0
  have y2 := hx.cell 2
  simp at y0 y2
  have f0 := hx.frozen 0
  have f2 := hx.frozen 2
  have hl := hsl.1
  obtain ⟨l, e⟩ := s
  have he : Only (· = p) w w := Only.refl _ _
  unfold Oct.take
  simp only at hl y2 hbys hsl ⊢
  rw [hl]
  replace hx := Lib.hid hx
  replace hsl := Lib.hid hsl
  replace hbys := Lib.hid hbys
  by_cases e0 : e = 0
  · subst e0
    rw [if_pos rfl]
    by_cases k0 : k < 0
    · rw [if_pos k0]
      go_enter Tryd.func31, Tryd.ntmps31
      go_wp2_with fail
      refine hn.mono ?_
      rintro e w1 ⟨rfl, rfl⟩
      go_wp2
      go_ret
      exact ⟨_, rfl, OB.nil _ _, ⟨A, n, c, hx.out.set_ 2 _, (hsl.out.far (by simp [World.setCell]) (fun _ => Below.heap_setCell w ⟨p, 2, none⟩ _ q (Ne.symm hpq))), hbys.out, hs⟩, he.set rfl _⟩
    rw [if_neg k0]
    obtain ⟨K, rfl⟩ : ∃ K : Nat, k = K := ⟨k.toNat, by omega⟩
    by_cases k1 : (n : Int) < (K : Int)
    · rw [if_pos k1]
      go_enter Tryd.func31, Tryd.ntmps31
      go_wp2_with fail
      refine hn.mono ?_
      rintro e w1 ⟨rfl, rfl⟩
      go_wp2
      go_ret
      exact ⟨_, rfl, OB.nil _ _, ⟨A, n, c, hx.out.set_ 2 _, (hsl.out.far (by simp [World.setCell]) (fun _ => Below.heap_setCell w ⟨p, 2, none⟩ _ q (Ne.symm hpq))), hbys.out, hs⟩, he.set rfl _⟩
    rw [if_neg k1, Int.toNat_natCast]
    have hK : K ≤ n := by omega
    obtain ⟨A1, r1, s1⟩ := slice_to hsl.out hK
    obtain ⟨A2, r2, s2⟩ := slice_from hsl.out hK
    have hc := clone_any A1 K c q _ w s1 (by omega)
    replace s1 := Lib.hid s1
    replace s2 := Lib.hid s2
    go_enter Tryd.func31, Tryd.ntmps31
    go_wp2_with fail
    refine hn.mono ?_
    rintro e w1 ⟨rfl, rfl⟩
    go_wp2_with fail
    refine hc.mono ?_
    rintro e w1 ⟨v, rfl, ho, hb⟩
    have z := hx.out.later hb
    have z0 := z.cell 0
    have g0 := z.frozen 0
    simp at z0
    go_wp2
    go_ret
    have hp := hx.out.lt
    refine ⟨v, rfl, ownsRow_setCell_below ho (a := ⟨p, 0, none⟩) hp _, ⟨A2, n - K, c - K, z.set_ 0 _, ?_, hbys.out.drop K, by omega⟩, Only.set (F := (· = p)) (Only.of_below hb) (p := ⟨p, 0, none⟩) rfl _⟩
    exact (s2.out.later hb).far (by simp [World.setCell]) (fun _ => Below.heap_setCell w1 ⟨p, 0, none⟩ _ q (Ne.symm hpq))
  · rw [if_neg e0]
    go_enter Tryd.func31, Tryd.ntmps31
    go_wp2_with fail
    refine hn.mono ?_
    rintro e w1 ⟨rfl, rfl⟩
    go_wp2
    go_ret
    exact ⟨_, rfl, OB.nil _ _, h0.out, he⟩
end Go.Proofs.YtpmfaocegkjhmaaDoor
