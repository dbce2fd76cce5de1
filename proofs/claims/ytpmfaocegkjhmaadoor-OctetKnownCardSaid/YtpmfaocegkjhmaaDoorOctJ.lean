/-
  Layer 2: the document's reader: NewReader, Left, End, Take, Num.
-/
import Derived.Test.YtpmfaocegkjhmaaDoorOctI
namespace Go.Proofs.YtpmfaocegkjhmaaDoor
open Go.RowKit Go.Sort Go.Shelf Go.Deep Go.WideShapes

/-- A reader of the document's, at p, its bytes in the block q. -/
def RRdr (w : World) (p q : Nat) (s : Oct.St) : Prop := ∃ A n c, Blk w p 53 #[.slice A n c, .int .i64 s.e] ∧ Sl w q A n c s.l ∧ Oct.Bys s.l ∧ n ≤ 1000
theorem RRdr.later {w w' : World} {p q : Nat} {s : Oct.St} (h : RRdr w p q s) (hb : Below w.heap.size w w') : RRdr w' p q s := by
  obtain ⟨A, n, c, h1, h2, h3⟩ := h
  exact ⟨A, n, c, h1.later hb, h2.later hb, h3⟩
theorem RRdr.lt {w : World} {p q : Nat} {s : Oct.St} (h : RRdr w p q s) : p < w.heap.size := by
  obtain ⟨A, n, c, h1, h2, h3⟩ := h
  exact h1.lt
theorem RRdr.only {w w' : World} {p q : Nat} {s : Oct.St} {F : Nat → Prop} (h : RRdr w p q s) (ho : Only F w w') (hp : ¬ F p) (hq : ¬ F q) : RRdr w' p q s := by
  obtain ⟨A, n, c, h1, h2, h3⟩ := h
  exact ⟨A, n, c, (ho.block p h1.lt hp).trans h1, h2.far ho.size (fun hlt => ho.block q hlt hq), h3⟩

theorem rnewr_any (A : Option Addr) (n c : Nat) (l : List Int) (w : World) (h : Rb w A n c l) (hs : n ≤ 1000) (hl : Oct.Bys l) :
    Calls Tryd.prog 29 #[.slice A n c] w fun e w' => ∃ p q', e = .returned (.pointer (some ⟨p, 0, none⟩)) ∧ RRdr w' p q' ⟨l, 0⟩ ∧ w.heap.size ≤ p ∧ w.heap.size ≤ q' ∧ p ≠ q' ∧ Below w.heap.size w w' := by
  have hc := copyb_any A n c l w h (by omega)
  have hn := h.1
  clear h
  go_enter Tryd.func29, Tryd.ntmps29
  go_wp2_with fail
  refine hc.mono ?_
  rintro e w1 ⟨v', rfl, ho, hb⟩
  obtain ⟨q', A', c', rfl, hq, hsl, hob⟩ := ho.open_
  rw [hn] at hsl
  have hq1 : q' < w1.heap.size ∨ A' = none := by
    rcases hsl.2.2.2 with ⟨h1, _⟩ | ⟨off, _, h2, _⟩
    · exact .inr h1
    · exact .inl h2
  clear hob
  go_wp2
  go_ret
  have hsz := hb.size
  rcases hq1 with hq1 | rfl
  · exact ⟨_, q', rfl, ⟨A', n, c', by rw [← hn]; exact Blk.new w1 _ _, hsl.later (laterA (Below.refl _ _) _), hl, hs⟩, hsz, hq, by omega, laterA hb _⟩
  · refine ⟨_, w1.heap.size + 1, rfl, ⟨none, n, c', by rw [← hn]; exact Blk.new w1 _ _, ?_, hl, hs⟩, hsz, by omega, by omega, laterA hb _⟩
    obtain ⟨h1, h2, h3, ⟨_, h4, h5⟩ | ⟨off, h4, _⟩⟩ := hsl
    · exact ⟨h1, h2, h3, .inl ⟨rfl, h4, h5⟩⟩
    · cases h4

theorem rleft_any (p q : Nat) (s : Oct.St) (w : World) (h : RRdr w p q s) : Calls Tryd.prog 34 #[.pointer (some ⟨p, 0, none⟩)] w fun e w' => e = .returned (.int .i64 s.l.length) ∧ w = w' := by
  obtain ⟨A, n, c, hx, hsl, _⟩ := h
  have y0 := hx.cell 0
  simp at y0
  have hl := hsl.1
  rw [hl]
  clear hx hsl
  go_enter Tryd.func34, Tryd.ntmps34
  go_wp2
  go_ret
  exact ⟨rfl, rfl⟩
theorem rend_any (p q : Nat) (s : Oct.St) (w : World) (h : RRdr w p q s) : Calls Tryd.prog 35 #[.pointer (some ⟨p, 0, none⟩)] w fun e w' => e = .returned (.int .i64 (Oct.fin s)) ∧ w = w' := by
  obtain ⟨A, n, c, hx, hsl, _⟩ := h
  have y0 := hx.cell 0
  have y1 := hx.cell 1
  simp at y0 y1
  have hl := hsl.1
  unfold Oct.fin
  clear hx hsl
  obtain ⟨l, e⟩ := s
  simp only at hl y1 ⊢
  have hl2 : l = [] ↔ n = 0 := by rw [← hl]; exact List.length_eq_zero_iff.symm
  simp only [hl2]
  clear hl2 hl
  by_cases e0 : e = 0
  · subst e0
    by_cases n0 : n = 0
    · subst n0
      go_enter Tryd.func35, Tryd.ntmps35
      go_wp2
      go_ret
      exact ⟨rfl, rfl⟩
    · have n1 : (n : Int) > 0 := by omega
      rw [if_pos rfl, if_neg n0]
      go_enter Tryd.func35, Tryd.ntmps35
      go_wp2
      go_ret
      exact ⟨rfl, rfl⟩
  · rw [if_neg e0]
    go_enter Tryd.func35, Tryd.ntmps35
    go_wp2
    go_ret
    exact ⟨rfl, rfl⟩

set_option maxHeartbeats 2000000 in
theorem rtake_any (p q : Nat) (k : Int) (s : Oct.St) (w : World) (h : RRdr w p q s) (hpq : p ≠ q) :
    Calls Tryd.prog 32 #[.pointer (some ⟨p, 0, none⟩), .int .i64 k] w fun e w' => ∃ v, e = .returned v ∧ OB w' w.heap.size v (Oct.take k s).1 ∧ RRdr w' p q (Oct.take k s).2 ∧ Only (· = p) w w' := by
  have h0 := Lib.hid h
  obtain ⟨A, n, c, hx, hsl, hbys, hs⟩ := h
  have y0 := hx.cell 0
  have y2 := hx.cell 1
  simp at y0 y2
  have f0 := hx.frozen 0
  have f2 := hx.frozen 1
  have hl := hsl.1
  obtain ⟨l, e⟩ := s
  have he : Only (· = p) w w := Only.refl _ _
  unfold Oct.take
  simp only at hl y2 hbys hsl ⊢
  rw [hl]
  replace hx := Lib.hid hx
  replace hsl := Lib.hid hsl
  replace hbys := Lib.hid hbys
  by_cases e0 : e = 0
  · subst e0
    rw [if_pos rfl]
    by_cases k0 : k < 0
    · rw [if_pos k0]
      go_enter Tryd.func32, Tryd.ntmps32
      go_wp2
      go_ret
      exact ⟨_, rfl, OB.nil _ _, ⟨A, n, c, hx.out.set_ 1 _, (hsl.out.far (by simp [World.setCell]) (fun _ => Below.heap_setCell w ⟨p, 1, none⟩ _ q (Ne.symm hpq))), hbys.out, hs⟩, he.set rfl _⟩
    rw [if_neg k0]
    obtain ⟨K, rfl⟩ : ∃ K : Nat, k = K := ⟨k.toNat, by omega⟩
    by_cases k1 : (n : Int) < (K : Int)
    · rw [if_pos k1]
      go_enter Tryd.func32, Tryd.ntmps32
      go_wp2
      go_ret
      exact ⟨_, rfl, OB.nil _ _, ⟨A, n, c, hx.out.set_ 1 _, (hsl.out.far (by simp [World.setCell]) (fun _ => Below.heap_setCell w ⟨p, 1, none⟩ _ q (Ne.symm hpq))), hbys.out, hs⟩, he.set rfl _⟩
    rw [if_neg k1, Int.toNat_natCast]
    have hK : K ≤ n := by omega
    obtain ⟨A1, r1, s1⟩ := slice_to hsl.out hK
    obtain ⟨A2, r2, s2⟩ := slice_from hsl.out hK
    have hc := copyb_any A1 K c _ w s1.rb (by omega)
    replace s1 := Lib.hid s1
    replace s2 := Lib.hid s2
    go_enter Tryd.func32, Tryd.ntmps32
    go_wp2_with fail
    refine hc.mono ?_
    rintro e w1 ⟨v, rfl, ho, hb⟩
    have z := hx.out.later hb
    have z0 := z.cell 0
    have g0 := z.frozen 0
    simp at z0
    go_wp2
    go_ret
    have hp := hx.out.lt
    refine ⟨v, rfl, ownsRow_setCell_below ho (a := ⟨p, 0, none⟩) hp _, ⟨A2, n - K, c - K, z.set_ 0 _, ?_, hbys.out.drop K, by omega⟩, Only.set (F := (· = p)) (Only.of_below hb) (p := ⟨p, 0, none⟩) rfl _⟩
    exact (s2.out.later hb).far (by simp [World.setCell]) (fun _ => Below.heap_setCell w1 ⟨p, 0, none⟩ _ q (Ne.symm hpq))
  · rw [if_neg e0]
    go_enter Tryd.func32, Tryd.ntmps32
    go_wp2
    go_ret
    exact ⟨_, rfl, OB.nil _ _, h0.out, he⟩
end Go.Proofs.YtpmfaocegkjhmaaDoor
