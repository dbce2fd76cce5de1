/-
  Layer 14: sounderlaw14.through.
-/
import Derived.Test.YtniiemmgcjkphaaPacK
namespace Go.Proofs.Ytniiemmgcjkphaa
open Go.RowKit Go.Sort

namespace Pac
theorem ceil_le {y d : Int} (hy : 0 ≤ y) (hd : 1 ≤ d) : 0 ≤ (y + d - 1) / d ∧ (y + d - 1) / d ≤ y := by
  constructor
  · exact Int.ediv_nonneg (by omega) (by omega)
  · have : (y + d - 1) / d < y + 1 := by
      rw [Int.ediv_lt_iff_lt_mul (by omega)]
      have : y * 1 ≤ y * d := Int.mul_le_mul_of_nonneg_left (by omega) hy
      rw [Int.add_mul]
      omega
    omega
theorem part_hi (p : Pc) (a b : Int) (n0 : 0 ≤ p.num) (n1 : p.num ≤ 5242880) (d0 : 1 ≤ p.den) (ha : 0 ≤ a) (hb : b ≤ 42949672960) : 0 ≤ part p a b ∧ part p a b ≤ 225179981368524800 := by
  unfold part
  by_cases h : max a p.f < b
  · rw [if_pos h]
    have h0 : 0 ≤ b - max a p.f := by omega
    have h1 : b - max a p.f ≤ 42949672960 := by omega
    have h2 : (b - max a p.f) * p.num ≤ 42949672960 * 5242880 := Int.mul_le_mul h1 n1 n0 (by omega)
    have h3 : 0 ≤ (b - max a p.f) * p.num := Int.mul_nonneg h0 n0
    have h4 := ceil_le h3 d0
    omega
  · rw [if_neg h]; omega
theorem through_hi : ∀ (l : List Pc) (a b : Int), (∀ q ∈ l, 0 ≤ q.num ∧ q.num ≤ 5242880 ∧ 1 ≤ q.den) → 0 ≤ a → b ≤ 42949672960 → 0 ≤ through l a b ∧ through l a b ≤ 225179981368524800 * (l.length : Int)
  | [], _, _, _, _, _ => by simp [through]
  | [p], a, b, h, ha, hb => by
    have hp := h p (by simp)
    have := part_hi p a b hp.1 hp.2.1 hp.2.2 ha hb
    simpa [through] using this
  | p :: q :: r, a, b, h, ha, hb => by
    have hp := h p (by simp)
    have h1 := part_hi p a (min b q.f) hp.1 hp.2.1 hp.2.2 ha (by omega)
    have ih := through_hi (q :: r) a b (fun x hx => h x (List.mem_cons_of_mem _ hx)) ha hb
    have e : through (p :: q :: r) a b = part p a (min b q.f) + through (q :: r) a b := rfl
    have el : (((p :: q :: r).length : Nat) : Int) = ((q :: r).length : Int) + 1 := by simp
    rw [e, el]
    omega
theorem through_bd {L : List Pc} {gs : List (Int × Int)} (h : Bd L gs) (ok : ∀ q ∈ L, 0 ≤ q.num ∧ 1 ≤ q.den) (hl : L.length ≤ 41) {a b : Int} (ha : 0 ≤ a) (hb : b ≤ 42949672960) : 0 ≤ through L a b ∧ through L a b ≤ 9007199254740992000 := by
  have hall : ∀ q ∈ L, 0 ≤ q.num ∧ q.num ≤ 5242880 ∧ 1 ≤ q.den := fun q hq => ⟨(ok q hq).1, (h.pcs q hq).2.1, (ok q hq).2⟩
  have h0 := through_hi L a b hall ha hb
  obtain ⟨r, rfl⟩ := h.head
  refine ⟨h0.1, ?_⟩
  have hz : ∀ a b, part ⟨0, 0, 1⟩ a b = 0 := fun a b => by
    unfold part
    split
    · simp
    · rfl
  cases r with
  | nil => show part _ _ _ ≤ _; rw [hz]; omega
  | cons q r =>
    have h1 := through_hi (q :: r) a b (fun x hx => hall x (List.mem_cons_of_mem _ hx)) ha hb
    have e : through (⟨0, 0, 1⟩ :: q :: r) a b = part ⟨0, 0, 1⟩ a (min b q.f) + through (q :: r) a b := rfl
    rw [e, hz]
    simp only [List.length_cons] at hl h1
    omega
theorem through_drop {L : List Pc} {i : Nat} (hi : i < L.length) (a b : Int) :
    through (L.drop i) a b = part L[i] a (if h : i + 1 < L.length then min b L[i + 1].f else b) + through (L.drop (i + 1)) a b := by
  rw [List.drop_eq_getElem_cons hi]
  by_cases h : i + 1 < L.length
  · rw [dif_pos h, List.drop_eq_getElem_cons h]
    rfl
  · rw [dif_neg h, List.drop_of_length_le (by omega)]
    show part _ _ _ = _ + 0
    omega
end Pac

theorem Rd.all3 {w : World} {A : Option Addr} {n : Nat} {f : Nat → Nat → Int} (h : Rd w A 3 n f) (h0 : 0 < n) :
    ∃ b off, A = some ⟨b, off, none⟩ ∧ ∀ k, k < n → ∀ wx, Below w.heap.size w wx → wx.cell? ⟨b, off + k * 3, none⟩ = some (.int .i64 (f k 0)) ∧ wx.cell? ⟨b, off + k * 3 + 1, none⟩ = some (.int .i64 (f k 1)) ∧ wx.cell? ⟨b, off + k * 3 + 2, none⟩ = some (.int .i64 (f k 2)) := by
  obtain ⟨b, off, rfl, hb, hc⟩ := h h0
  refine ⟨b, off, rfl, fun k hk wx hx => ?_⟩
  have g : ∀ j, j < 3 → wx.cell? ⟨b, off + k * 3 + j, none⟩ = some (.int .i64 (f k j)) := fun j hj => by
    have := (hx.cell (p := ⟨b, _, none⟩) hb).trans (hc k hk j hj)
    rwa [show off + (k * 3 + j) = off + k * 3 + j by omega] at this
  exact ⟨g 0 (by omega), g 1 (by omega), g 2 (by omega)⟩
/-- The pieces that a slice holds. -/
def pcsOf (f : Nat → Nat → Int) (n : Nat) : List Pac.Pc := (List.range n).map fun k => ⟨f k 0, f k 1, f k 2⟩
theorem pcsOf_length (f : Nat → Nat → Int) (n : Nat) : (pcsOf f n).length = n := by simp [pcsOf]

set_option maxHeartbeats 4000000 in
set_option maxRecDepth 100000 in
theorem through_any (A : Option Addr) (n c : Nat) (f : Nat → Nat → Int) (a b : Int) (gs : List (Int × Int)) (w : World) (hr : Rd w A 3 n f) (hn : n ≤ 41) (hbd : Pac.Bd (pcsOf f n) gs) (ok : ∀ q ∈ pcsOf f n, 0 ≤ q.num ∧ 1 ≤ q.den) (ha : 0 ≤ a) (hb : b ≤ 42949672960) :
    Calls Try.prog 43 #[.slice A n c, .int .i64 a, .int .i64 b] w fun e w' => e = .returned (.int .i64 (Pac.through (pcsOf f n) a b)) ∧ ∃ q, w' = w.drewN q := by
  obtain ⟨t0, t1⟩ := Pac.through_bd hbd ok (by rw [pcsOf_length]; exact hn) ha hb
  obtain ⟨TH, hTH⟩ : ∃ TH, Pac.through (pcsOf f n) a b = TH := ⟨_, rfl⟩
  rw [hTH] at t0 t1 ⊢
  have hlow : ∀ i, 0 ≤ Pac.through ((pcsOf f n).drop i) a b := fun i => (Pac.through_hi _ a b (fun q hq => ⟨(ok q (List.mem_of_mem_drop hq)).1, (hbd.pcs q (List.mem_of_mem_drop hq)).2.1, (ok q (List.mem_of_mem_drop hq)).2⟩) ha hb).1
  have hat : ∀ i, i < n → 0 ≤ f i 1 ∧ 1 ≤ f i 2 ∧ f i 1 ≤ 5242880 ∧ f i 2 ≤ 4294967296 ∧ 0 ≤ f i 0 := fun i hi => by
    have hm : (⟨f i 0, f i 1, f i 2⟩ : Pac.Pc) ∈ pcsOf f n := by
      unfold pcsOf
      exact List.mem_map.2 ⟨i, List.mem_range.2 hi, rfl⟩
    have h1 := ok _ hm
    have h2 := hbd.pcs _ hm
    exact ⟨h1.1, h1.2, h2.2.1, h2.2.2, h2.1⟩
  have hstep : ∀ i (hi : i < n), Pac.through ((pcsOf f n).drop i) a b = Pac.part ⟨f i 0, f i 1, f i 2⟩ a (if i + 1 < n then min b (f (i + 1) 0) else b) + Pac.through ((pcsOf f n).drop (i + 1)) a b := fun i hi => by
    rw [Pac.through_drop (by rw [pcsOf_length]; exact hi)]
    congr 1
    by_cases h : i + 1 < n
    · rw [dif_pos (by rw [pcsOf_length]; exact h), if_pos h]
      simp [pcsOf]
    · rw [dif_neg (by rw [pcsOf_length]; exact h), if_neg h]
      simp [pcsOf]
  clear hbd ok
  replace hr := Lib.hid hr
  replace hTH := Lib.hid hTH
  replace hlow := Lib.hid hlow
  replace hat := Lib.hid hat
  replace hstep := Lib.hid hstep
  go_enter Try.func43, Try.ntmps43
  go_wp2_with fail
  go_loopw [7, 8] (fun x i wr => ∃ (j : Nat) (s : Int) (q : Nat), x = .int .i64 s ∧ i = .int .i64 (j : Int) ∧ j ≤ n ∧ s + Pac.through ((pcsOf f n).drop j) a b = TH ∧ 0 ≤ s ∧ wr = w.drewN q) (fun _ i _ => n - (intOf i).toNat)
  case atStart => exact ⟨0, 0, 0, rfl, rfl, by omega, by rw [List.drop_zero, hTH.out]; omega, by omega, rfl⟩
  case round =>
    obtain ⟨j, s, q, rfl, rfl, hj, hs, hs0, rfl⟩ := hrel
    by_cases hlt : j < n
    · have hlt' : (j : Int) < (n : Int) := by omega
      have hwj : IntKind.i64.wrap ((j : Int) + 1) = (j : Int) + 1 := IntWalk.i64_in _ (by omega)
      obtain ⟨b0, off, rfl, hc⟩ := hr.out.all3 (by omega)
      obtain ⟨y0, y1, y2⟩ := hc j hlt w (Below.refl _ w)
      have hst := hstep.out j hlt
      have hlo := hlow.out (j + 1)
      obtain ⟨u0, u1, u2, u3, u4⟩ := hat.out j hlt
      obtain ⟨RS, hRS⟩ : ∃ RS, Pac.through ((pcsOf f n).drop (j + 1)) a b = RS := ⟨_, rfl⟩
      rw [hRS] at hst hlo
      replace hRS := Lib.hid hRS
      rw [hst] at hs
      clear hst
      generalize f j 0 = F0 at *
      generalize f j 1 = F1 at *
      generalize f j 2 = F2 at *
      obtain ⟨A1, hA1⟩ : ∃ A1, max a F0 = A1 := ⟨_, rfl⟩
      have hA0 : 0 ≤ A1 := by omega
      by_cases hn1 : j + 1 < n
      · obtain ⟨z0, _, _⟩ := hc (j + 1) hn1 w (Below.refl _ w)
        rw [if_pos hn1] at hs
        generalize f (j + 1) 0 = G0 at *
        clear hc
        obtain ⟨B1, hB1⟩ : ∃ B1, min b G0 = B1 := ⟨_, rfl⟩
        rw [hB1] at hs
        have hBb : B1 ≤ 42949672960 := by omega
        have hn1' : (j : Int) + 1 < (n : Int) := by omega
        unfold Pac.part at hs
        simp only [hA1] at hs
        by_cases hAB : A1 < B1
        · rw [if_pos hAB] at hs
          obtain ⟨Z, hZ⟩ : ∃ Z, B1 - A1 = Z := ⟨_, rfl⟩
          have hw1 : IntKind.i64.wrap (B1 - A1) = Z := by rw [IntWalk.i64_in _ (by omega)]; exact hZ
          rw [hZ] at hs
          have hZ0 : 0 ≤ Z := by omega
          have hZ1 : Z ≤ 42949672960 := by omega
          have hY0 : 0 ≤ Z * F1 := Int.mul_nonneg hZ0 u0
          have hY1 : Z * F1 ≤ 42949672960 * 5242880 := Int.mul_le_mul hZ1 u2 u0 (by omega)
          obtain ⟨Y, hY⟩ : ∃ Y, Z * F1 = Y := ⟨_, rfl⟩
          rw [hY] at hs hY0 hY1
          have hw2 : IntKind.i64.wrap (Z * F1) = Y := by rw [hY]; exact IntWalk.i64_in _ (by omega)
          obtain ⟨V, hV⟩ : ∃ V, Y + F2 = V := ⟨_, rfl⟩
          have hw3 : IntKind.i64.wrap (Y + F2) = V := by rw [IntWalk.i64_in _ (by omega)]; exact hV
          obtain ⟨U, hU⟩ : ∃ U, V - 1 = U := ⟨_, rfl⟩
          have hw4 : IntKind.i64.wrap (V - 1) = U := by rw [IntWalk.i64_in _ (by omega)]; exact hU
          rw [hV, hU] at hs
          have hce := Pac.ceil_le hY0 u1
          rw [hV, hU] at hce
          obtain ⟨PT, hPT⟩ : ∃ PT, U / F2 = PT := ⟨_, rfl⟩
          rw [hPT] at hs hce
          have hw5 : wrap64 (U.tdiv F2) = PT := by
            rw [Int.tdiv_eq_ediv_of_nonneg (by omega), hPT]
            exact IntWalk.wrap64_in _ (by omega)
          obtain ⟨s', hs'⟩ : ∃ s', s + PT = s' := ⟨_, rfl⟩
          have hw6 : IntKind.i64.wrap (s + PT) = s' := by rw [IntWalk.i64_in _ (by omega)]; exact hs'
          have hF2 : ¬ F2 = 0 := by omega
          have hs2 : 0 ≤ s' := by omega
          have hs3 : s' + RS = TH := by omega
          clear hs hs0 hs' hce hPT hU hV hY hY0 hY1 hZ hZ0 hZ1 u0 u1 u2 u3 u4 t0 t1 hlo hA0 hBb hb ha
          replace hs2 := Lib.hid hs2
          replace hs3 := Lib.hid hs3
          go_wp2_with fail
          go_quiet (fail)
          go_wp2_with fail
          refine ⟨⟨j + 1, s', q + nq, rfl, by simp, by omega, by rw [hRS.out]; exact hs3.out, hs2.out, rfl⟩, ?_⟩
          simp only [intOf]
          omega
        · rw [if_neg hAB] at hs
          have hs3 : s + RS = TH := by omega
          clear hs u0 u1 u2 u3 u4 t0 t1 hlo hA0 hBb hb ha
          replace hs0 := Lib.hid hs0
          replace hs3 := Lib.hid hs3
          go_wp2_with fail
          refine ⟨⟨j + 1, s, q, rfl, by simp, by omega, by rw [hRS.out]; exact hs3.out, hs0.out, rfl⟩, ?_⟩
          simp only [intOf]
          omega
      · rw [if_neg hn1] at hs
        have hn1' : ¬ (j : Int) + 1 < (n : Int) := by omega
        clear hc
        obtain ⟨B1, hB1⟩ : ∃ B1, b = B1 := ⟨_, rfl⟩
        have hBb : B1 ≤ 42949672960 := by omega
        unfold Pac.part at hs
        simp only [hA1] at hs
        subst hB1
        by_cases hAB : A1 < b
        · rw [if_pos hAB] at hs
          obtain ⟨Z, hZ⟩ : ∃ Z, b - A1 = Z := ⟨_, rfl⟩
          have hw1 : IntKind.i64.wrap (b - A1) = Z := by rw [IntWalk.i64_in _ (by omega)]; exact hZ
          rw [hZ] at hs
          have hZ0 : 0 ≤ Z := by omega
          have hZ1 : Z ≤ 42949672960 := by omega
          have hY0 : 0 ≤ Z * F1 := Int.mul_nonneg hZ0 u0
          have hY1 : Z * F1 ≤ 42949672960 * 5242880 := Int.mul_le_mul hZ1 u2 u0 (by omega)
          obtain ⟨Y, hY⟩ : ∃ Y, Z * F1 = Y := ⟨_, rfl⟩
          rw [hY] at hs hY0 hY1
          have hw2 : IntKind.i64.wrap (Z * F1) = Y := by rw [hY]; exact IntWalk.i64_in _ (by omega)
          obtain ⟨V, hV⟩ : ∃ V, Y + F2 = V := ⟨_, rfl⟩
          have hw3 : IntKind.i64.wrap (Y + F2) = V := by rw [IntWalk.i64_in _ (by omega)]; exact hV
          obtain ⟨U, hU⟩ : ∃ U, V - 1 = U := ⟨_, rfl⟩
          have hw4 : IntKind.i64.wrap (V - 1) = U := by rw [IntWalk.i64_in _ (by omega)]; exact hU
          rw [hV, hU] at hs
          have hce := Pac.ceil_le hY0 u1
          rw [hV, hU] at hce
          obtain ⟨PT, hPT⟩ : ∃ PT, U / F2 = PT := ⟨_, rfl⟩
          rw [hPT] at hs hce
          have hw5 : wrap64 (U.tdiv F2) = PT := by
            rw [Int.tdiv_eq_ediv_of_nonneg (by omega), hPT]
            exact IntWalk.wrap64_in _ (by omega)
          obtain ⟨s', hs'⟩ : ∃ s', s + PT = s' := ⟨_, rfl⟩
          have hw6 : IntKind.i64.wrap (s + PT) = s' := by rw [IntWalk.i64_in _ (by omega)]; exact hs'
          have hF2 : ¬ F2 = 0 := by omega
          have hs2 : 0 ≤ s' := by omega
          have hs3 : s' + RS = TH := by omega
          clear hs hs0 hs' hce hPT hU hV hY hY0 hY1 hZ hZ0 hZ1 u0 u1 u2 u3 u4 t0 t1 hlo hA0 hBb ha
          replace hs2 := Lib.hid hs2
          replace hs3 := Lib.hid hs3
          go_wp2_with fail
          go_quiet (fail)
          go_wp2_with fail
          refine ⟨⟨j + 1, s', q + nq, rfl, by simp, by omega, by rw [hRS.out]; exact hs3.out, hs2.out, rfl⟩, ?_⟩
          simp only [intOf]
          omega
        · rw [if_neg hAB] at hs
          have hs3 : s + RS = TH := by omega
          clear hs u0 u1 u2 u3 u4 t0 t1 hlo hA0 hBb ha
          replace hs0 := Lib.hid hs0
          replace hs3 := Lib.hid hs3
          go_wp2_with fail
          refine ⟨⟨j + 1, s, q, rfl, by simp, by omega, by rw [hRS.out]; exact hs3.out, hs0.out, rfl⟩, ?_⟩
          simp only [intOf]
          omega
    · have hlt' : ¬ (j : Int) < (n : Int) := by omega
      rw [List.drop_of_length_le (by rw [pcsOf_length]; omega)] at hs
      have hs2 : s = TH := by
        have e : Pac.through [] a b = 0 := rfl
        omega
      subst hs2
      go_wp2
      go_ret
      exact ⟨rfl, q, rfl⟩
end Go.Proofs.Ytniiemmgcjkphaa
