/-
  Layer 2: OctetKnown: the walk.
-/
import Derived.Test.YtpmfaocegkjhmaaDoorOctZ
namespace Go.Proofs.YtpmfaocegkjhmaaDoor
open Go.RowKit Go.Sort Go.Shelf Go.Deep Go.WideShapes

theorem u8_same (k : Nat) (h : k < 256) : IntKind.u8.wrap (k : Int) = (k : Int) := by
  rw [IntKind.wrap_u8]
  omega

set_option maxHeartbeats 4000000 in
set_option maxRecDepth 100000 in
theorem known_any (w : World) (hL : Lim w) : Calls Tryd.prog 9 #[] w fun e w' => e = .returned (.bool true) ∧ Below w.heap.size w w' := by
  have h0 := hL.lt
  have hx : Blk (w.alloc (.cells #[.int .i64 (-9223372036854775808), .int .i64 (-1), .int .i64 0, .int .i64 1, .int .i64 62, .int .i64 63, .int .i64 64, .int .i64 65, .int .i64 16382, .int .i64 16383, .int .i64 16384, .int .i64 1073741823, .int .i64 1073741824, .int .i64 9007199254740991, .int .i64 9007199254740992, .int .i64 4611686018427387903, .int .i64 9223372036854775807] 3)) w.heap.size 3 (ints ends17) := Blk.new w _ _
  have hb0 := laterA (Below.refl w.heap.size w) (.cells #[.int .i64 (-9223372036854775808), .int .i64 (-1), .int .i64 0, .int .i64 1, .int .i64 62, .int .i64 63, .int .i64 64, .int .i64 65, .int .i64 16382, .int .i64 16383, .int .i64 16384, .int .i64 1073741823, .int .i64 1073741824, .int .i64 9007199254740991, .int .i64 9007199254740992, .int .i64 4611686018427387903, .int .i64 9223372036854775807] 3)
  replace hL := Lib.hid hL
  replace hx := Lib.hid hx
  replace hb0 := Lib.hid hb0
  go_enter Tryd.func9, Tryd.ntmps9
  go_wp2_with fail
  obtain ⟨W, hW⟩ : ∃ W, w.alloc (.cells #[.int .i64 (-9223372036854775808), .int .i64 (-1), .int .i64 0, .int .i64 1, .int .i64 62, .int .i64 63, .int .i64 64, .int .i64 65, .int .i64 16382, .int .i64 16383, .int .i64 16384, .int .i64 1073741823, .int .i64 1073741824, .int .i64 9007199254740991, .int .i64 9007199254740992, .int .i64 4611686018427387903, .int .i64 9223372036854775807] 3) = W := ⟨_, rfl⟩
  rw [hW] at hx hb0 ⊢
  clear hW
  go_loopw [2] (fun i wr => ∃ k : Nat, i = .int .i64 (k : Int) ∧ k ≤ 17 ∧ Below w.heap.size w wr ∧ Blk wr w.heap.size 3 (ints ends17)) (fun i _ => 17 - (intOf i).toNat)
  case atStart => exact ⟨0, rfl, by omega, hb0.out, hx.out⟩
  case round =>
    clear hx hb0
    obtain ⟨k, rfl, hk, hbw, hx⟩ := hrel
    replace hbw := Lib.hid hbw
    replace hx := Lib.hid hx
    by_cases hlt : k < 17
    · have hlt' : (k : Int) < 17 := by omega
      have hwi : IntKind.i64.wrap ((k : Int) + 1) = (k : Int) + 1 := IntWalk.i64_in _ (by omega)
      go_wp2_with fail
      go_loopw [3] (fun s wr => ∃ z : Int, s = .int .i64 z ∧ -1 ≤ z ∧ z ≤ 11 ∧ Below w.heap.size w wr ∧ Blk wr w.heap.size 3 (ints ends17)) (fun s _ => (11 - intOf s).toNat)
      case atStart => exact ⟨-1, rfl, by omega, by omega, hbw.out, hx.out⟩
      case round =>
        clear hbw hx
        obtain ⟨z, rfl, hz0, hz1, hbw, hx⟩ := hrel
        obtain ⟨x, cx⟩ := ends17_at hx hlt
        have hgl := hx.lt
        replace hbw := Lib.hid hbw
        replace hx := Lib.hid hx
        by_cases hz : z < 11
        · have hwz : IntKind.i64.wrap (z + 1) = z + 1 := IntWalk.i64_in _ (by omega)
          go_wp2_with fail
          with_reducible refine (writes_new [9] x z #[.int .u8 9] 1 wr (hL.out.later hbw.out) (bys_dec rfl) rfl rfl (by omega)).mono ?_
          rintro e w1 ⟨rfl, hb⟩
          have hb1 := Lib.hid (old_later2 hbw.out hb hbw.out.size)
          have hx1 := Lib.hid (hx.out.later hb)
          clear hb hbw hx
          go_wp2_with fail
          refine ⟨⟨z + 1, rfl, by omega, by omega, hb1.out, hx1.out⟩, ?_⟩
          simp only [intOf]
          omega
        · go_wp2_with fail
          with_reducible refine (reads3_any [1, 64, 1, 128, 0, 0, 1, 192, 0, 0, 0, 0, 0, 0, 1] [0, 19, 0, 0, x, 0] 6 15 #[.int .u8 1, .int .u8 64, .int .u8 1, .int .u8 128, .int .u8 0, .int .u8 0, .int .u8 1, .int .u8 192, .int .u8 0, .int .u8 0, .int .u8 0, .int .u8 0, .int .u8 0, .int .u8 0, .int .u8 1] #[.int .i64 0, .int .i64 19, .int .i64 0, .int .i64 0, .int .i64 x, .int .i64 0] wr (hL.out.later hbw.out) (bys_dec rfl) rfl rfl (by omega) rfl rfl (by omega)).mono ?_
          rintro e w1 ⟨rfl, hb⟩
          have hb1 := Lib.hid (old_later2 hbw.out hb hbw.out.size)
          have hx1 := Lib.hid (hx.out.later hb)
          clear hb hbw hx
          go_wp2_with fail
          refine ⟨⟨k + 1, by simp, by omega, hb1.out, hx1.out⟩, ?_⟩
          simp only [intOf]
          omega
    · have hlt' : ¬ (k : Int) < 17 := by omega
      clear hx
      go_wp2_with fail
      go_loopw [4] (fun i wr => ∃ k : Nat, i = .int .i64 (k : Int) ∧ k ≤ 256 ∧ Below w.heap.size w wr) (fun i _ => 256 - (intOf i).toNat)
      case atStart => exact ⟨0, rfl, by omega, hbw.out⟩
      case round =>
        clear hbw hk hlt hlt'

        obtain ⟨k, rfl, hk, hbw⟩ := hrel
        replace hbw := Lib.hid hbw
        by_cases hlt : k < 256
        · have hlt' : (k : Int) < 256 := by omega
          have hw8 := u8_same k hlt
          have hwi : IntKind.i64.wrap ((k : Int) + 1) = (k : Int) + 1 := IntWalk.i64_in _ (by omega)
          have hsl := sl_new wr [(k : Int), 1, 2, 3, 4, 5, 6, 7] #[.int .u8 (k : Int), .int .u8 1, .int .u8 2, .int .u8 3, .int .u8 4, .int .u8 5, .int .u8 6, .int .u8 7] 8 rfl rfl (by unfold maxLen; omega)
          have hby : Oct.Bys [(k : Int), 1, 2, 3, 4, 5, 6, 7] := Oct.Bys.cons (by omega) (by omega) (bys_dec rfl)
          have hb1 := old_later2 hbw.out (laterA (Below.refl wr.heap.size wr) (.cells #[.int .u8 (k : Int), .int .u8 1, .int .u8 2, .int .u8 3, .int .u8 4, .int .u8 5, .int .u8 6, .int .u8 7] 5)) hbw.out.size
          replace hsl := Lib.hid hsl
          replace hby := Lib.hid hby
          replace hb1 := Lib.hid hb1
          clear hbw
          go_wp2_with fail
          obtain ⟨W1, hW1⟩ : ∃ W1, wr.alloc (.cells #[.int .u8 (k : Int), .int .u8 1, .int .u8 2, .int .u8 3, .int .u8 4, .int .u8 5, .int .u8 6, .int .u8 7] 5) = W1 := ⟨_, rfl⟩
          rw [hW1] at hsl hb1 ⊢
          clear hW1
          obtain ⟨G, hG⟩ : ∃ G, wr.heap.size = G := ⟨_, rfl⟩
          rw [hG] at hsl ⊢
          clear hG
          obtain ⟨lc, hlc⟩ : ∃ lc, [(k : Int), 1, 2, 3, 4, 5, 6, 7] = lc := ⟨_, rfl⟩
          rw [hlc] at hsl hby
          clear hlc
          go_loopw [6] (fun i wr => ∃ j : Nat, i = .int .i64 (j : Int) ∧ j ≤ 9 ∧ Sl wr G (some ⟨G, 0, none⟩) 8 8 lc ∧ Below w.heap.size w wr) (fun i _ => 9 - (intOf i).toNat)
          case atStart => exact ⟨0, rfl, by omega, hsl.out, hb1.out⟩
          case round =>
            clear hsl hb1
            obtain ⟨j, rfl, hj, hsl, hbw⟩ := hrel
            by_cases hj8 : j ≤ 8
            · have hj8' : (j : Int) ≤ 8 := by omega
              obtain ⟨A6, hsl6, hs6⟩ := slice_to hsl (K := j) hj8
              have hR := fun hl hd h1 h2 => reads2_any A6 j 8 (lc.take j) [0, 0, 0, 0] 4 #[.int .i64 0, .int .i64 0, .int .i64 0, .int .i64 0] _ (hL.out.later hbw) hs6.rb hl hd h1 h2
              replace hR := hR (hby.out.take j) rfl rfl (by omega)
              have hwj : IntKind.i64.wrap ((j : Int) + 1) = (j : Int) + 1 := IntWalk.i64_in _ (by omega)
              replace hsl := Lib.hid hsl
              replace hbw := Lib.hid hbw
              replace hs6 := Lib.hid hs6
              go_wp2_with fail
              with_reducible refine hR.mono ?_
              rintro e w1 ⟨rfl, hb⟩
              have hb1 := Lib.hid (old_later2 hbw.out hb hbw.out.size)
              have hsl1 := Lib.hid (hsl.out.later hb)
              clear hb hbw hsl hR hs6
              go_wp2_with fail
              refine ⟨⟨j + 1, by simp, by omega, hsl1.out, hb1.out⟩, ?_⟩
              simp only [intOf]
              omega
            · have hj8' : ¬ (j : Int) ≤ 8 := by omega
              replace hbw := Lib.hid hbw
              clear hsl
              go_wp2_with fail
              refine ⟨⟨k + 1, by simp, by omega, hbw.out⟩, ?_⟩
              simp only [intOf]
              omega
        · have hlt' : ¬ (k : Int) < 256 := by omega
          go_wp2_with fail
          go_loopw [7, 8] (fun v i wr => ∃ k : Nat, i = .int .i64 (k : Int) ∧ k ≤ 2 ∧ NoR wr v ∧ Below w.heap.size w wr) (fun _ i _ => 2 - (intOf i).toNat)
          case atStart => exact ⟨0, rfl, by omega, .inl rfl, hbw.out⟩
          case round =>
            clear hbw hk hlt hlt'
            obtain ⟨j, rfl, hj, hno, hbw⟩ := hrel
            by_cases hjl : j < 2
            · have hjl' : (j : Int) < 2 := by omega
              have hwj : IntKind.i64.wrap ((j : Int) + 1) = (j : Int) + 1 := IntWalk.i64_in _ (by omega)
              have e1 := nnum_any _ _ hno
              have e2 := ntake_any _ _ hno
              have e3 := nleft_any _ _ hno
              have e4 := nerr_any _ _ hno
              have e5 := nend_any _ _ hno
              replace hno := Lib.hid hno
              replace hbw := Lib.hid hbw
              replace e1 := Lib.hid e1
              replace e2 := Lib.hid e2
              replace e3 := Lib.hid e3
              replace e4 := Lib.hid e4
              replace e5 := Lib.hid e5
              go_wp2_with fail
              with_reducible refine e1.out.mono ?_
              rintro e w1 ⟨rfl, rfl⟩
              go_wp2_with fail
              with_reducible refine e2.out.mono ?_
              rintro e w1 ⟨rfl, rfl⟩
              go_wp2_with fail
              with_reducible refine e3.out.mono ?_
              rintro e w1 ⟨rfl, rfl⟩
              go_wp2_with fail
              with_reducible refine e4.out.mono ?_
              rintro e w1 ⟨rfl, rfl⟩
              go_wp2_with fail
              with_reducible refine e5.out.mono ?_
              rintro e w1 ⟨rfl, rfl⟩
              clear e1 e2 e3 e4 e5
              go_wp2_with fail
              refine ⟨⟨j + 1, by simp, by omega, .inr ⟨_, rfl, Blk.new _ _ _⟩, old_later2 hbw.out (laterA (Below.refl _ _) _) hbw.out.size⟩, ?_⟩
              simp only [intOf]
              omega
            · have hjl' : ¬ (j : Int) < 2 := by omega
              have hN := newr2_any none 0 0 0 [] _ (Nat.lt_of_lt_of_le h0 hbw.size) (Sl.nil _ 0) (by omega) Oct.Bys.nil
              replace hbw := Lib.hid hbw
              clear hno
              go_wp2_with fail
              with_reducible refine hN.mono ?_
              clear hN
              rintro e w1 ⟨p, q, rfl, hrd, hat, hb⟩
              have hpw : w.heap.size ≤ p := Nat.le_trans hbw.out.size hat.p0
              have hpq := hat.ne
              have hb1 := Lib.hid (old_later2 hbw.out hb hbw.out.size)
              have hWk := works_any w1 (hL.out.later hb1.out)
              replace hrd := Lib.hid hrd
              clear hb hat hbw
              go_wp2_with fail
              with_reducible refine hWk.mono ?_
              clear hWk
              rintro e w2 ⟨rfl, hb⟩
              have hrd2 := hrd.out.later hb
              have hb2 := Lib.hid (old_later2 hb1.out hb hb1.out.size)
              have hE := err_any p q _ w2 hrd2
              have hF := end_any p q _ w2 hrd2
              rw [show Oct.fin ⟨[], 0⟩ = 0 from rfl] at hF
              have hNu := num_any p q _ w2 hrd2 hpq
              rw [show Oct.num ⟨[], 0⟩ = (0, ⟨[], 3⟩) from rfl] at hNu
              clear hb hrd hrd2 hb1
              go_wp2_with fail
              with_reducible refine hE.mono ?_
              rintro e w3 ⟨rfl, rfl⟩
              go_wp2_with fail
              with_reducible refine hF.mono ?_
              rintro e w3 ⟨rfl, rfl⟩
              clear hE hF
              go_wp2_with fail
              with_reducible refine hNu.mono ?_
              clear hNu
              rintro e w3 ⟨rfl, hrd3, hon⟩
              have hb3 := Lib.hid (only_old hb2.out hon (by rintro i rfl; exact hpw) hb2.out.size)
              have hE := err_any p q _ w3 hrd3
              have hT := take_any p q (-1) _ w3 hrd3 hpq
              rw [show Oct.take (-1) ⟨[], 3⟩ = ([], ⟨[], 3⟩) from rfl] at hT
              clear hrd3 hon hb2
              go_wp2_with fail
              with_reducible refine hE.mono ?_
              clear hE
              rintro e w4 ⟨rfl, rfl⟩
              go_wp2_with fail
              with_reducible refine hT.mono ?_
              clear hT
              rintro e w4 ⟨v, rfl, ho, hrd4, hon⟩
              obtain ⟨A5, c5, rfl, _⟩ := ho.rb
              have hb4 := Lib.hid (only_old hb3.out hon (by rintro i rfl; exact hpw) hb3.out.size)
              have hE := err_any p q _ w4 hrd4
              have hS := strict_any none 0 0 0 [] w4 (hL.out.later hb4.out) (Sl.nil _ 0) (by omega) Oct.Bys.nil
              rw [show Oct.strict [] = true from rfl] at hS
              clear hrd4 hon hb3 ho
              go_wp2_with fail
              with_reducible refine hE.mono ?_
              clear hE
              rintro e w5 ⟨rfl, rfl⟩
              go_wp2_with fail
              with_reducible refine hS.mono ?_
              clear hS
              rintro e w5 ⟨rfl, hb⟩
              go_wp2
              go_ret
              exact ⟨rfl, old_later2 hb4.out hb hb4.out.size⟩
end Go.Proofs.YtpmfaocegkjhmaaDoor
