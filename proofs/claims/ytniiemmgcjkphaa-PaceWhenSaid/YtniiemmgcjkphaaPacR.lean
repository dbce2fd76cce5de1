/-
  Layer 14: PaceWhen: the walk.
-/
import Derived.Test.YtniiemmgcjkphaaPacQ
import Derived.Test.YtniiemmgcjkphaaPacO
namespace Go.Proofs.Ytniiemmgcjkphaa
open Go.RowKit Go.Sort

theorem rate_field (a b : Int) (W : World) : (Instr.field 25 (.agg #[.int .i64 a, .int .i64 b]) 0).run Try.prog W = .ok (.int .i64 a) W := by
  simp [Instr.field, run_underlying Try.underlying25, go_sem, asAgg]
theorem can_yes {p b : Nat} {s : Pac.St} {t n : Int} {w : World} (h : Pk w p b s) (hw : Pac.wf s) (he : Pac.sendE s t n = 0) :
    Calls Try.prog 45 #[.pointer (some ⟨p, 0, none⟩), .int .i64 t, .int .i64 n] w fun e w' => e = .returned (.bool true) ∧ Below w.heap.size w w' := by
  have := pcan_any p b s t n w h hw
  rw [he] at this
  exact this
theorem can_no {p b : Nat} {s : Pac.St} {t n : Int} {w : World} (h : Pk w p b s) (hw : Pac.wf s) (he : Pac.sendE s t n ≠ 0) :
    Calls Try.prog 45 #[.pointer (some ⟨p, 0, none⟩), .int .i64 t, .int .i64 n] w fun e w' => e = .returned (.bool false) ∧ Below w.heap.size w w' := by
  have := pcan_any p b s t n w h hw
  rwa [show (Pac.sendE s t n == 0) = false by simpa using he] at this

theorem old_later2_ {B : Nat} {a w w' : World} (h : Below B a w) (k : Below w.heap.size w w') (hs : B ≤ w.heap.size) : Below B a w' := h.trans (k.mono hs)

set_option maxHeartbeats 4000000 in
set_option maxRecDepth 100000 in
theorem pwhenlaw_any (burst : Int) (A : Option Addr) (n c : Nat) (f : Nat → Nat → Int) (x y z : Int) (w : World) (hn : n ≤ 9223372036854775807) (hr : Rd w A 4 n f) :
    Calls Try.prog 11 #[.int .i64 burst, .slice A n c, .agg #[.int .i64 x, .int .i64 y, .int .i64 z]] w fun e w' => e = .returned (.bool true) ∧ Below w.heap.size w w' := by
  have b0 := Int.emod_nonneg burst (show (1048576 : Int) ≠ 0 by omega)
  have b1 := Int.emod_lt_of_pos burst (show (0 : Int) < 1048576 by omega)
  have hB := Lib.hid (bring_same burst 1048576 (by omega) (by omega))
  generalize burst % 1048576 = r at *
  obtain ⟨BB, hBB⟩ : ∃ BB, 1 + r = BB := ⟨_, rfl⟩
  have hwb : IntKind.i64.wrap (1 + r) = BB := by rw [IntWalk.i64_in _ (by omega)]; exact hBB
  have hno : Bkt.newOk BB 0 = true := by unfold Bkt.newOk; rw [Bool.and_eq_true, decide_eq_true_eq, Sat.isN_iff]; omega
  clear b0 b1 hBB
  have k0 := Int.emod_nonneg x (show (3000 : Int) ≠ 0 by omega)
  have k1 := Int.emod_lt_of_pos x (show (0 : Int) < 3000 by omega)
  have hX := Lib.hid (bring_same x 3000 (by omega) (by omega))
  generalize x % 3000 = r1 at *
  obtain ⟨k, hk⟩ : ∃ k, 1 + r1 = k := ⟨_, rfl⟩
  have hwk : IntKind.i64.wrap (1 + r1) = k := by rw [IntWalk.i64_in _ (by omega)]; exact hk
  have hk1 : 1 ≤ k := by omega
  have hk2 : k ≤ 3000 := by omega
  clear k0 k1 hk
  have hn' := Lib.hid hn
  clear hn
  have hx := Blk.new w 56 #[.int .i64 x, .int .i64 y, .int .i64 z]
  have hb := laterA (Below.refl w.heap.size w) (.cells #[.int .i64 x, .int .i64 y, .int .i64 z] 56)
  replace hno := Lib.hid hno
  replace hr := Lib.hid hr
  replace hx := Lib.hid hx
  replace hb := Lib.hid hb
  go_enter Try.func11, Try.ntmps11
  go_wp2_with fail
  obtain ⟨W0, hW0⟩ : ∃ W0, w.alloc (.cells #[.int .i64 x, .int .i64 y, .int .i64 z] 56) = W0 := ⟨_, rfl⟩
  rw [hW0] at hx hb ⊢
  have hs0 : W0.heap.size = w.heap.size + 1 := by rw [← hW0]; simp
  clear hW0
  with_reducible refine (hB.out _).mono ?_
  rintro e w2 ⟨rfl, rfl⟩
  go_wp2_with fail
  with_reducible refine (pnew_ok BB 0 W0 hno.out).mono ?_
  rintro e w2 ⟨p, b, hp, hpb, rfl, hk0, hb2⟩
  have hx2 := Lib.hid (hx.out.later hb2)
  have hb3 := Lib.hid (later hb.out (hb2.mono (by omega)))
  clear hb hb2 hx
  have hPl := play_any BB p b A n c f w w2 hn'.out hr.out hb3.out (by omega) (by omega) hk0 hno.out
  clear hk0
  go_wp2_with fail
  with_reducible refine hPl.mono ?_
  clear hPl
  rintro e w3 ⟨v1, v2, b', s, l, pc, gs, rfl, own1, own2, hbb, hkk, hI, ⟨hl1, hl2⟩, hBd, ho⟩
  have hb4 := Lib.hid (only_old hb3.out ho (by rintro i (rfl | rfl) <;> omega) hb3.out.size)
  have hx3 := Lib.hid (hx2.out.only ho (by rintro (h | h) <;> omega))
  clear hb3 hx2 ho hbb hBd hl1 own1
  obtain ⟨A2, c2, hv2, _⟩ := own_gs own2
  subst hv2
  clear own2
  obtain ⟨m, hm⟩ : ∃ m, min n 40 = m := ⟨_, rfl⟩
  rw [hm] at hI hl2
  have hts := tsum_bd f m
  have hm40 : (m : Int) ≤ 40 := by omega
  obtain ⟨G, hG⟩ : ∃ G, gs.length = G := ⟨_, rfl⟩
  rw [hG] at hl2 ⊢
  have hT0 : 0 ≤ tsum f m := hts.1
  have hT1 : tsum f m ≤ 42949672960 := by omega
  clear hts hl2
  replace hG := Lib.hid hG
  replace hm := Lib.hid hm
  replace hkk := Lib.hid hkk
  replace hI := Lib.hid hI
  go_wp2_with fail
  go_loopw [12, 13] (fun t i wr => ∃ j : Nat, t = .int .i64 (tsum f j) ∧ i = .int .i64 (j : Int) ∧ j ≤ m ∧ w3 = wr) (fun _ i _ => 60 - (intOf i).toNat)
  case atStart => exact ⟨0, rfl, rfl, by omega, rfl⟩
  case round =>
    obtain ⟨j, rfl, rfl, hj, rfl⟩ := hrel
    have hmo := hm.out
    by_cases hlt : j < m
    · have hlt2 : (j : Int) < (n : Int) := by omega
      have h40 : (j : Int) < 40 := by omega
      obtain ⟨ba, off, rfl, hca⟩ := hr.out.at4 (show j < n by omega)
      obtain ⟨y0, _⟩ := hca w3 hb4.out
      clear hca
      have hA := Lib.hid (bring_same (f j 0) 1073741824 (by omega) (by omega))
      have eT : tsum f (j + 1) = tsum f j + f j 0 % 1073741824 := rfl
      have q0 := Int.emod_nonneg (f j 0) (show (1073741824 : Int) ≠ 0 by omega)
      have q1 := Int.emod_lt_of_pos (f j 0) (show (0 : Int) < 1073741824 by omega)
      have hbj := tsum_bd f j
      have hwT : IntKind.i64.wrap (tsum f j + f j 0 % 1073741824) = tsum f (j + 1) := by rw [IntWalk.i64_in _ (by omega), eT]
      have hwj : IntKind.i64.wrap ((j : Int) + 1) = (j : Int) + 1 := IntWalk.i64_in _ (by omega)
      replace eT := Lib.hid eT
      clear q0 q1 hbj hT0 hT1 hmo
      generalize f j 0 % 1073741824 = d at *
      go_wp2_with fail
      with_reducible refine (hA.out _).mono ?_
      rintro e w4 ⟨rfl, rfl⟩
      go_wp2_with fail
      refine ⟨⟨j + 1, rfl, by simp, by omega, trivial⟩, ?_⟩
      simp only [intOf]
      omega
    · have hjm : j = m := by omega
      subst hjm
      obtain ⟨T, hT⟩ : ∃ T, tsum f j = T := ⟨_, rfl⟩
      rw [hT] at hI hT0 hT1 ⊢
      have hpw := Pac.pl_when hI.out (show T ≤ 9007199254740991 by omega) hk1 hk2
      have hwf := Lib.hid hI.out.wf
      have hmax : BB = s.b.B := hI.out.hB.symm
      clear hmax
      have hcase : ¬ (j : Int) < (n : Int) ∨ ((j : Int) < (n : Int) ∧ ¬ (j : Int) < 40) := by omega
      clear hmo hlt hj hm40 hI hno hT
      have hWh := pwhen_any p b' s k w3 hkk.out hwf.out
      have hx3' := hx3.out
      have xx0 := hx3'.cell 0
      simp at xx0
      clear hx3'
      obtain ⟨at_, hat⟩ : ∃ a, Pac.when_ s k = a := ⟨_, rfl⟩
      rw [hat] at hWh hpw
      clear hat
      replace hWh := Lib.hid hWh
      rcases hcase with g1 | ⟨g1, g2⟩
      all_goals
        go_wp2_with fail
        with_reducible refine (hX.out _).mono ?_
        rintro e w4 ⟨rfl, rfl⟩
        go_wp2_with fail
        with_reducible refine hWh.out.mono ?_
        clear hWh xx0
        rintro e w4 ⟨rfl, hb5⟩
        have hk4 := Lib.hid (hkk.out.kept hb5)
        have hx4 := Lib.hid (hx3.out.later hb5)
        replace hb4 := Lib.hid (old_later2_ hb4.out hb5 hb4.out.size)
        clear hb5 hkk hx3
        rcases hpw with ⟨rfl, n1, n2, n3⟩ | ⟨W, rfl, W0', W1', y1, y2⟩
        · by_cases hBk : BB < k
          · clear n3
            have hNo := Lib.hid n1
            have hNo2 := Lib.hid n2
            clear n1 n2
            go_wp2_with fail
            with_reducible refine (can_no hk4.out hwf.out hNo.out).mono ?_
            rintro e w5 ⟨rfl, hb5⟩
            replace hk4 := Lib.hid (hk4.out.kept hb5)
            replace hx4 := Lib.hid (hx4.out.later hb5)
            replace hb4 := Lib.hid (old_later2_ hb4.out hb5 hb4.out.size)
            clear hb5
            go_wp2_with fail
            with_reducible refine (can_no hk4.out hwf.out hNo2.out).mono ?_
            rintro e w6 ⟨rfl, hb5⟩
            replace hk4 := Lib.hid (hk4.out.kept hb5)
            replace hx4 := Lib.hid (hx4.out.later hb5)
            replace hb4 := Lib.hid (old_later2_ hb4.out hb5 hb4.out.size)
            clear hb5
            go_wp2_with fail
            with_reducible refine (pworks_any _).mono ?_
            rintro e w9 ⟨rfl, hb5⟩
            go_wp2
            go_ret
            exact ⟨rfl, old_later2_ hb4.out hb5 hb4.out.size⟩
          · have hG1 : (0 : Int) < (G : Int) := by
              have h3 := n3.resolve_left hBk
              have := List.length_pos_iff.2 h3
              have := hG.out
              omega
            clear n3
            have hNo := Lib.hid n1
            have hNo2 := Lib.hid n2
            clear n1 n2
            go_wp2_with fail
            with_reducible refine (can_no hk4.out hwf.out hNo.out).mono ?_
            rintro e w5 ⟨rfl, hb5⟩
            replace hk4 := Lib.hid (hk4.out.kept hb5)
            replace hx4 := Lib.hid (hx4.out.later hb5)
            replace hb4 := Lib.hid (old_later2_ hb4.out hb5 hb4.out.size)
            clear hb5
            go_wp2_with fail
            with_reducible refine (can_no hk4.out hwf.out hNo2.out).mono ?_
            rintro e w6 ⟨rfl, hb5⟩
            replace hk4 := Lib.hid (hk4.out.kept hb5)
            replace hx4 := Lib.hid (hx4.out.later hb5)
            replace hb4 := Lib.hid (old_later2_ hb4.out hb5 hb4.out.size)
            clear hb5
            have hRt := prate_any p b' s w6 hk4.out
            go_wp2_with fail
            with_reducible refine hRt.mono ?_
            clear hRt
            rintro e w7 ⟨rfl, hb5⟩
            replace hb4 := Lib.hid (old_later2_ hb4.out hb5 hb4.out.size)
            clear hb5
            have hfld := fun (q : Int) (W : World) => rate_field q s.den W
            have hd1 : decide (BB < k) = false := decide_eq_false (by omega)
            have hG2 : 0 < G := by omega
            have hd2 : decide (0 < G) = true := decide_eq_true hG2
            by_cases hnum : s.num = 0
            · have hnum2 : (s.num == 0) = true := by simpa using hnum
              go_wp2_with fail
              with_reducible refine (pworks_any _).mono ?_
              rintro e w9 ⟨rfl, hb5⟩
              go_wp2
              go_ret
              exact ⟨rfl, old_later2_ hb4.out hb5 hb4.out.size⟩
            · have hnum2 : (s.num == 0) = false := by simpa using hnum
              go_wp2_with fail
              with_reducible refine (pworks_any _).mono ?_
              rintro e w9 ⟨rfl, hb5⟩
              go_wp2
              go_ret
              exact ⟨rfl, old_later2_ hb4.out hb5 hb4.out.size⟩
        · have hne : ¬ at_ = -1 := by omega
          have hne2 : (at_ == (-1 : Int)) = false := by simpa using hne
          obtain ⟨N, hN⟩ : ∃ N, max at_ T = N := ⟨_, rfl⟩
          have hN0 : N ≤ 9007199254740991 := by omega
          have hNa : at_ ≤ N := by omega
          have hNT : T ≤ N := by omega
          have hY1 := Lib.hid (y1 N hNa hNT hN0)
          have r0 := Int.emod_nonneg y (show (9007199254740992 - N) ≠ 0 by omega)
          have r2 := Int.emod_lt_of_pos y (show 0 < (9007199254740992 - N) by omega)
          have hY := Lib.hid (bring_same y (9007199254740992 - N) (by omega) (by omega))
          have hwn : IntKind.i64.wrap (9007199254740992 - N) = 9007199254740992 - N := IntWalk.i64_in _ (by omega)
          generalize y % (9007199254740992 - N) = ry at *
          have hwr : IntKind.i64.wrap (N + ry) = N + ry := IntWalk.i64_in _ (by omega)
          have hY2 := Lib.hid (y1 (N + ry) (by omega) (by omega) (by omega))
          clear r0 r2 y1 hne
          by_cases hWT : at_ ≤ T
          · clear y2 hNa hNT hN0 W0' W1'
            go_wp2_with fail
            with_reducible refine (can_yes hk4.out hwf.out hY1.out).mono ?_
            rintro e w5 ⟨rfl, hb5⟩
            replace hk4 := Lib.hid (hk4.out.kept hb5)
            replace hx4 := Lib.hid (hx4.out.later hb5)
            replace hb4 := Lib.hid (old_later2_ hb4.out hb5 hb4.out.size)
            clear hb5
            have xx1 := hx4.out.cell 1
            have xx2 := hx4.out.cell 2
            simp at xx1 xx2
            go_wp2_with fail
            with_reducible refine (hY.out _).mono ?_
            rintro e w6 ⟨rfl, rfl⟩
            clear xx1 xx2
            go_wp2_with fail
            with_reducible refine (can_yes hk4.out hwf.out hY2.out).mono ?_
            rintro e w6 ⟨rfl, hb5⟩
            replace hk4 := Lib.hid (hk4.out.kept hb5)
            replace hx4 := Lib.hid (hx4.out.later hb5)
            replace hb4 := Lib.hid (old_later2_ hb4.out hb5 hb4.out.size)
            clear hb5
            go_wp2_with fail
            with_reducible refine (pworks_any _).mono ?_
            rintro e w9 ⟨rfl, hb5⟩
            go_wp2
            go_ret
            exact ⟨rfl, old_later2_ hb4.out hb5 hb4.out.size⟩
          · have hlt3 : T < at_ := by omega
            have hD : (0 : Int) < at_ - T := by omega
            have z0 := Int.emod_nonneg z (show (at_ - T) ≠ 0 by omega)
            have z1 := Int.emod_lt_of_pos z hD
            have hZ := Lib.hid (bring_same z (at_ - T) hD (by omega))
            have hw1 : IntKind.i64.wrap (at_ - T) = at_ - T := IntWalk.i64_in _ (by omega)
            have hw2 : IntKind.i64.wrap (at_ - 1) = at_ - 1 := IntWalk.i64_in _ (by omega)
            generalize z % (at_ - T) = rz at *
            have hw3 : IntKind.i64.wrap (at_ - 1 - rz) = at_ - 1 - rz := IntWalk.i64_in _ (by omega)
            have hmx : max T (at_ - 1 - rz) = at_ - 1 - rz := by omega
            have hY3 := Lib.hid (y2 (at_ - 1 - rz) (by omega) (by omega))
            clear y2 z0 z1 hNa hNT hN0 W0' W1' hlt3 hD hT0 hT1
            go_wp2_with fail
            with_reducible refine (can_yes hk4.out hwf.out hY1.out).mono ?_
            rintro e w5 ⟨rfl, hb5⟩
            replace hk4 := Lib.hid (hk4.out.kept hb5)
            replace hx4 := Lib.hid (hx4.out.later hb5)
            replace hb4 := Lib.hid (old_later2_ hb4.out hb5 hb4.out.size)
            clear hb5
            have xx1 := hx4.out.cell 1
            have xx2 := hx4.out.cell 2
            simp at xx1 xx2
            go_wp2_with fail
            with_reducible refine (hY.out _).mono ?_
            rintro e w6 ⟨rfl, rfl⟩
            clear xx1 xx2
            go_wp2_with fail
            with_reducible refine (can_yes hk4.out hwf.out hY2.out).mono ?_
            rintro e w6 ⟨rfl, hb5⟩
            replace hk4 := Lib.hid (hk4.out.kept hb5)
            replace hx4 := Lib.hid (hx4.out.later hb5)
            replace hb4 := Lib.hid (old_later2_ hb4.out hb5 hb4.out.size)
            clear hb5
            have xx2 := hx4.out.cell 2
            simp at xx2
            go_wp2_with fail
            with_reducible refine (hZ.out _).mono ?_
            rintro e w7 ⟨rfl, rfl⟩
            clear xx2
            go_wp2_with fail
            with_reducible refine (can_no hk4.out hwf.out hY3.out).mono ?_
            rintro e w7 ⟨rfl, hb5⟩
            replace hk4 := Lib.hid (hk4.out.kept hb5)
            replace hx4 := Lib.hid (hx4.out.later hb5)
            replace hb4 := Lib.hid (old_later2_ hb4.out hb5 hb4.out.size)
            clear hb5
            go_wp2_with fail
            with_reducible refine (pworks_any _).mono ?_
            rintro e w9 ⟨rfl, hb5⟩
            go_wp2
            go_ret
            exact ⟨rfl, old_later2_ hb4.out hb5 hb4.out.size⟩
end Go.Proofs.Ytniiemmgcjkphaa
