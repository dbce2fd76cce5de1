/-
  Layer 2: the statements' made: a number of a row, and in which size.
-/
import Derived.Test.YtpmfaocegkjhmaaDoorOctM
import Derived.Test.YtpmfaocegkjhmaaDoorBring
namespace Go.Proofs.YtpmfaocegkjhmaaDoor
open Go.RowKit Go.Sort Go.Shelf Go.Deep Go.WideShapes

namespace Oct
def nOf (x y : Int) : Int := x % 9007199254740992 / 2 ^ min (y % 53).toNat 64
def dbl : Nat → Int → Int
  | 0, s => s
  | k + 1, s => if 0 < s ∧ s < 8 then dbl k (2 * s) else s
def sOf (n z : Int) : Int := dbl (z % 4).toNat (size n)
theorem two_pos (k : Nat) : (0 : Int) < 2 ^ k := Int.pow_pos (by decide)
theorem nOf_range (x y : Int) : 0 ≤ nOf x y ∧ nOf x y ≤ 9007199254740991 := by
  unfold nOf
  have h1 := Int.emod_nonneg x (show (9007199254740992 : Int) ≠ 0 by omega)
  have h2 := Int.emod_lt_of_pos x (show (0 : Int) < 9007199254740992 by omega)
  have h3 := two_pos (min (y % 53).toNat 64)
  generalize x % 9007199254740992 = a at *
  generalize (2 : Int) ^ min (y % 53).toNat 64 = p at *
  refine ⟨Int.ediv_nonneg h1 (by omega), ?_⟩
  have := Int.ediv_le_self p h1
  omega
def Sz (n s : Int) : Prop := (s = 1 ∨ s = 2 ∨ s = 4 ∨ s = 8) ∧ Fits n s.toNat
theorem Sz.dbl {n s : Int} (h : Sz n s) (hs : s < 8) : Sz n (2 * s) := by
  obtain ⟨h1 | h1 | h1 | h1, h2⟩ := h <;> subst h1 <;> obtain ⟨f0, f⟩ := h2
  · exact ⟨by omega, f0, by omega⟩
  · exact ⟨by omega, f0, by omega⟩
  · exact ⟨by omega, f0, by omega⟩
  · omega
theorem dbl_sz (n : Int) : ∀ (k : Nat) (s : Int), Sz n s → Sz n (Oct.dbl k s)
  | 0, s, h => h
  | k + 1, s, h => by
    unfold Oct.dbl
    split
    · exact dbl_sz n k _ (h.dbl (by omega))
    · exact h
theorem sOf_sz (x y z : Int) : Sz (nOf x y) (sOf (nOf x y) z) := by
  obtain ⟨h0, h1⟩ := nOf_range x y
  obtain ⟨hf, hp, h8⟩ := fits_size h0 h1
  refine dbl_sz _ _ _ ⟨?_, hf⟩
  have := size_cls (nOf x y)
  omega
end Oct

theorem Lim.drewN {w : World} (h : Lim w) (n : Nat) : Lim (w.drewN n) := h

set_option maxHeartbeats 2000000 in
theorem made_any (x y z : Int) (w : World) (hL : Lim w) :
    Calls Tryd.prog 20 #[.agg #[.int .i64 x, .int .i64 y, .int .i64 z]] w fun e w' => e = .returned (.tuple #[.int .i64 (Oct.nOf x y), .int .i64 (Oct.sOf (Oct.nOf x y) z)]) ∧ Below w.heap.size w w' := by
  obtain ⟨hr0, hr1⟩ := Oct.nOf_range x y
  have hs0 : Oct.Sz (Oct.nOf x y) (Oct.size (Oct.nOf x y)) := by
    obtain ⟨hf, hp, h8⟩ := Oct.fits_size hr0 hr1
    refine ⟨?_, hf⟩
    have := size_cls (Oct.nOf x y)
    omega
  have hz := size_cls (Oct.nOf x y)
  have hSz := fun W (h : Lim W) => size_any (Oct.nOf x y) W h
  unfold Oct.sOf
  have hB1 := fun W => bring_same x 9007199254740992 (by omega) (by omega) W
  have hB2 := fun W => bring_same y 53 (by omega) (by omega) W
  have hB3 := fun W => bring_same z 4 (by omega) (by omega) W
  have hy0 := Int.emod_nonneg y (show (53 : Int) ≠ 0 by omega)
  have hz0 := Int.emod_nonneg z (show (4 : Int) ≠ 0 by omega)
  have hz4 := Int.emod_lt_of_pos z (show (0 : Int) < 4 by omega)
  have hN : x % 9007199254740992 / 2 ^ min (y % 53).toNat 64 = Oct.nOf x y := rfl
  generalize Oct.nOf x y = NN at *
  generalize x % 9007199254740992 = X at *
  generalize y % 53 = Y at *
  obtain ⟨Z, hZ⟩ : ∃ Z : Nat, z % 4 = (Z : Int) := ⟨(z % 4).toNat, by omega⟩
  rw [hZ] at hz0 hz4 hB3 ⊢
  rw [Int.toNat_natCast]
  clear hZ
  replace hB1 := Lib.hid hB1
  replace hB2 := Lib.hid hB2
  replace hB3 := Lib.hid hB3
  replace hSz := Lib.hid hSz
  replace hL := Lib.hid hL
  replace hs0 := Lib.hid hs0
  replace hr0 := Lib.hid hr0
  replace hr1 := Lib.hid hr1
  go_enter Tryd.func20, Tryd.ntmps20
  have hx := Blk.new w 34 #[.int .i64 x, .int .i64 y, .int .i64 z]
  have hbx := laterA (Below.refl w.heap.size w) (.cells #[.int .i64 x, .int .i64 y, .int .i64 z] 34)
  have hLx := hL.out.later hbx
  replace hx := Lib.hid hx
  replace hbx := Lib.hid hbx
  replace hLx := Lib.hid hLx
  go_wp2_with fail
  go_quiet (first | (go_at_call 22; with_reducible exact quiet_left (hB1.out _)) | (go_at_call 22; with_reducible exact quiet_left (hB2.out _)))
  go_wp2_with fail
  refine (hSz.out _ (Lim.drewN hLx.out _)).mono ?_
  rintro e w2 ⟨rfl, hb⟩
  have hx2 := (hx.out.drewN nq).later hb
  have z2 := hx2.cell 2
  simp at z2
  have hb2 := later (laterDN hbx.out nq) hb
  generalize hSS : Oct.size NN = S at *
  replace hSS := Lib.hid hSS
  replace hx2 := Lib.hid hx2
  replace hb2 := Lib.hid hb2
  replace hb := Lib.hid hb
  go_wp2_with fail
  refine (hB3.out _).mono ?_
  rintro e w3 ⟨rfl, rfl⟩
  clear hz hN hy0
  have hSz0 : Oct.Sz NN S := hs0.out
  go_wp2_with fail
  go_loopw [5, 6] (fun s i wr => ∃ (j : Nat) (S' : Int), s = .int .i64 S' ∧ i = .int .i64 (j : Int) ∧ j ≤ 3 ∧ Oct.dbl Z S = Oct.dbl j S' ∧ Oct.Sz NN S' ∧ w2 = wr) (fun _ i _ => (intOf i).toNat)
  case atStart => exact ⟨Z, S, rfl, rfl, by omega, rfl, hSz0, rfl⟩
  case round =>
    obtain ⟨j, S', rfl, rfl, hj, hd, hsz, rfl⟩ := hrel
    clear hSz0 hs0
    obtain ⟨h4, hf⟩ := id hsz
    cases j with
    | zero =>
      have hjj : (((0 : Nat) : Int)) = 0 := rfl
      rw [hjj]
      replace hsz := Lib.hid hsz
      replace hf := Lib.hid hf
      replace hd := Lib.hid hd
      clear h4 hjj
      go_wp2_with fail
      go_ret2
      refine ⟨?_, hb2.out⟩
      rw [hSS.out, hd.out]
      rfl
    | succ j =>
      have hjp : (0 : Int) < ((j + 1 : Nat) : Int) := by omega
      have hwj : IntKind.i64.wrap (((j + 1 : Nat) : Int) - 1) = (j : Int) := by rw [IntWalk.i64_in _ (by omega)]; omega
      generalize hJ : ((j + 1 : Nat) : Int) = J at *
      by_cases h8 : S' = 8
      · subst h8
        have e0 : Oct.dbl (j + 1) 8 = 8 := rfl
        clear h4
        replace hsz := Lib.hid hsz
        replace hf := Lib.hid hf
        replace hd := Lib.hid hd
        replace hJ := Lib.hid hJ
        replace e0 := Lib.hid e0
        go_wp2_with fail
        go_ret2
        refine ⟨?_, hb2.out⟩
        rw [hSS.out, hd.out, e0.out]
        rfl
      · have e0 : Oct.dbl (j + 1) S' = Oct.dbl j (2 * S') := by
          rw [Oct.dbl, if_pos (by omega)]
        have hsz2 := hsz.dbl (by omega)
        rw [e0] at hd
        have h0 : (0 : Int) < S' := by omega
        have h8' : S' < 8 := by omega
        have hw2 : IntKind.i64.wrap (2 * S') = 2 * S' := IntWalk.i64_in _ (by omega)
        clear e0 h4 h8
        replace hsz := Lib.hid hsz
        replace hf := Lib.hid hf
        replace hd := Lib.hid hd
        replace hJ := Lib.hid hJ
        replace hsz2 := Lib.hid hsz2
        go_wp2_with fail
        refine ⟨⟨j, 2 * S', rfl, rfl, by omega, hd.out, hsz2.out, trivial⟩, ?_⟩
        rw [← hJ.out]
        simp only [intOf]
        omega
end Go.Proofs.YtpmfaocegkjhmaaDoor
