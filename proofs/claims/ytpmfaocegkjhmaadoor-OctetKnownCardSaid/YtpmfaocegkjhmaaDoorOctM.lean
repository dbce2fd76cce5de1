/-
  Layer 2: the statements' works.
-/
import Derived.Test.YtpmfaocegkjhmaaDoorOctL
namespace Go.Proofs.YtpmfaocegkjhmaaDoor
open Go.RowKit Go.Sort Go.Shelf Go.Deep Go.WideShapes

theorem w_enc1 : ([37] : List Int) = Oct.enc 37 (Oct.size 37).toNat := by kernel_rfl
theorem w_enc2 : ([123, 189] : List Int) = Oct.enc 15293 (Oct.size 15293).toNat := by kernel_rfl
theorem w_enc3 : ([157, 127, 62, 125] : List Int) = Oct.enc 494878333 (Oct.size 494878333).toNat := by kernel_rfl
theorem w_put1 : Oct.putIn [] 37 2 = ([64, 37], 0) := by kernel_rfl
theorem w_put2 : Oct.putIn [] 64 1 = ([], 2) := by kernel_rfl
theorem w_put3 : Oct.put [] (-1) = ([], 9) := by kernel_rfl
theorem w_num1 : Oct.num ⟨[64, 37], 0⟩ = (37, ⟨[], 0⟩) := by kernel_rfl
theorem w_num2 : Oct.num ⟨[64], 0⟩ = (0, ⟨[64], 3⟩) := by kernel_rfl
theorem w_num3 : Oct.num ⟨[255, 255, 255, 255, 255, 255, 255, 255], 0⟩ = (0, ⟨[255, 255, 255, 255, 255, 255, 255, 255], 9⟩) := by kernel_rfl
theorem w_str1 : Oct.strict [64, 37] = false := by kernel_rfl
theorem w_str2 : Oct.strict [37, 123, 189] = true := by kernel_rfl
theorem bys_dec {l : List Int} (h : l.all (fun x => decide (0 ≤ x ∧ x < 256)) = true) : Oct.Bys l := fun x hx => by
  have := List.all_eq_true.1 h x hx
  simpa using this
theorem Rdr.but {w w' : World} {p q p' : Nat} {s : Oct.St} (h : Rdr w p q s) (ho : Only (· = p') w w') (hp : p ≠ p') (hq : q ≠ p') : Rdr w' p q s := h.only ho hp hq
theorem RRdr.but {w w' : World} {p q p' : Nat} {s : Oct.St} (h : RRdr w p q s) (ho : Only (· = p') w w') (hp : p ≠ p') (hq : q ≠ p') : RRdr w' p q s := h.only ho hp hq
theorem At.q_ne {w w0 : World} {B p q B' p' q' : Nat} (h : At w B p q) (h' : At w0 B' p' q') (hs : w.heap.size ≤ B') : q ≠ p' := by
  have := h.q1; have := h'.p0; omega
theorem At.p_ne {w w0 : World} {B p q B' p' q' : Nat} (h : At w B p q) (h' : At w0 B' p' q') (hs : w.heap.size ≤ B') : p ≠ p' := by
  have := h.p1; have := h'.p0; omega
theorem At.q_ne' {w w0 : World} {B p q B' p' q' : Nat} (h : At w B p q) (h' : At w0 B' p' q') (hs : w.heap.size ≤ B') (hB : 0 < B) : q' ≠ p := by
  have := h.p1; have := h'.q0; have := h.p0; omega

set_option maxHeartbeats 4000000 in
set_option maxRecDepth 100000 in
theorem works_any (w : World) (hL : Lim w) : Calls Tryd.prog 19 #[] w fun e w' => e = .returned (.bool true) ∧ Below w.heap.size w w' := by
  have h0 := hL.lt
  have hL0 := Lib.hid hL
  clear hL
  go_enter Tryd.func19, Tryd.ntmps19
  go_wp2_with fail
  refine (puts_new 37 [37] #[.int .u8 37] 1 w hL0.out rfl rfl (by omega) (by omega) (by omega) w_enc1).mono ?_
  rintro e w1 ⟨rfl, hb⟩
  have hL1 := Lib.hid (hL0.out.later hb)
  have hb1 := Lib.hid hb
  clear hb
  go_wp2_with fail
  refine (puts_new 15293 [123, 189] #[.int .u8 123, .int .u8 189] 2 w1 hL1.out rfl rfl (by omega) (by omega) (by omega) w_enc2).mono ?_
  rintro e w2 ⟨rfl, hb⟩
  have hL2 := Lib.hid (hL1.out.later hb)
  have hb2 := Lib.hid (later hb1.out hb)
  clear hb
  go_wp2_with fail
  refine (puts_new 494878333 [157, 127, 62, 125] #[.int .u8 157, .int .u8 127, .int .u8 62, .int .u8 125] 4 w2 hL2.out rfl rfl (by omega) (by omega) (by omega) w_enc3).mono ?_
  rintro e w3 ⟨rfl, hb⟩
  have hL3 := Lib.hid (hL2.out.later hb)
  have hb3 := Lib.hid (later hb2.out hb)
  clear hb hb1 hb2 hL1 hL2
  have hP := putin_any none 0 0 0 [] 37 2 w3 hL3.out (Sl.nil _ 0) (by omega)
  rw [w_put1] at hP
  go_wp2_with fail
  refine hP.mono ?_
  clear hP
  rintro e w4 ⟨v, rfl, ho, hb⟩
  have hL4 := Lib.hid (hL3.out.later hb)
  have hb4 := Lib.hid (later hb3.out hb)
  clear hb hb3 hL3
  obtain ⟨qv, Av, cv, rfl, _, hsv, _⟩ := ho.open_
  have hrv := Lib.hid hsv.rb
  clear hsv ho
  have hP := putin_any none 0 0 0 [] 64 1 w4 hL4.out (Sl.nil _ 0) (by omega)
  rw [w_put2] at hP
  go_wp2_with fail
  refine hP.mono ?_
  clear hP
  rintro e w5 ⟨v5, rfl, _, hb⟩
  have hL5 := Lib.hid (hL4.out.later hb)
  have hb5 := Lib.hid (later hb4.out hb)
  replace hrv := Lib.hid (hrv.out.later hb)
  clear hb hb4 hL4
  have hP := put_any none 0 0 0 [] (-1) w5 hL5.out (Sl.nil _ 0) (by omega)
  rw [w_put3] at hP
  go_wp2_with fail
  refine hP.mono ?_
  clear hP
  rintro e w6 ⟨v6, rfl, _, hb⟩
  have hL6 := Lib.hid (hL5.out.later hb)
  have hb6 := Lib.hid (later hb5.out hb)
  replace hrv := Lib.hid (hrv.out.later hb)
  clear hb hb5 hL5
  have hz := hb6.out.size
  go_wp2_with fail
  refine (newr_new [64, 37] #[.int .u8 64, .int .u8 37] 2 w6 rfl rfl (by omega) (bys_dec rfl)).mono ?_
  rintro e w7 ⟨p, q, rfl, hr, ha, hb⟩
  have hs7 := hb.size
  have b7 := Lib.hid hb
  clear hb
  replace hr := Lib.hid hr
  replace ha := Lib.hid ha
  go_wp2_with fail
  refine (newr_new [64] #[.int .u8 64] 1 w7 rfl rfl (by omega) (bys_dec rfl)).mono ?_
  rintro e w8 ⟨p', q', rfl, hr', ha', hb⟩
  replace hr := Lib.hid (hr.out.later hb)
  have hs8 := hb.size
  have b8 := Lib.hid (later b7.out hb)
  clear hb b7
  replace hr' := Lib.hid hr'
  replace ha' := Lib.hid ha'
  go_wp2_with fail
  refine (newr_new [255, 255, 255, 255, 255, 255, 255, 255] #[.int .u8 255, .int .u8 255, .int .u8 255, .int .u8 255, .int .u8 255, .int .u8 255, .int .u8 255, .int .u8 255] 8 w8 rfl rfl (by omega) (bys_dec rfl)).mono ?_
  rintro e w9 ⟨p2, q2, rfl, hr2, ha2, hb⟩
  replace hr := Lib.hid (hr.out.later hb)
  replace hr' := Lib.hid (hr'.out.later hb)
  have hs9 := hb.size
  have b9 := Lib.hid (later b8.out hb)
  clear hb b8
  replace hr2 := Lib.hid hr2
  replace ha2 := Lib.hid ha2
  have hd1 : p ≠ p' ∧ q ≠ p' ∧ q' ≠ p ∧ p ≠ p2 ∧ q ≠ p2 ∧ q2 ≠ p ∧ p' ≠ p2 ∧ q' ≠ p2 ∧ q2 ≠ p' ∧ w6.heap.size ≤ p ∧ w6.heap.size ≤ p' ∧ w6.heap.size ≤ p2 := by
    obtain ⟨a1, a2, a3, a4, a5⟩ := ha.out
    obtain ⟨b1, b2, b3, b4, b5⟩ := ha'.out
    obtain ⟨c1, c2, c3, c4, c5⟩ := ha2.out
    omega
  obtain ⟨d1, d2, d3, d4, d5, d6, d7, d8, d9, d10, d11, d12⟩ := hd1
  replace ha := Lib.hid ha.out.ne
  replace ha' := Lib.hid ha'.out.ne
  replace ha2 := Lib.hid ha2.out.ne
  have hN := num_any p q _ w9 hr.out ha.out
  rw [w_num1] at hN
  go_wp2_with fail
  refine hN.mono ?_
  clear hN
  rintro e w10 ⟨rfl, hrN, hon⟩
  have b10 := Lib.hid (only_old b9.out hon (by rintro k rfl; exact d10) b9.out.size)
  replace hr' := Lib.hid (hr'.out.but hon (Ne.symm d1) d3)
  replace hr2 := Lib.hid (hr2.out.but hon (Ne.symm d4) d6)
  replace hr := Lib.hid hrN
  clear hon hrN b9
  have hN := num_any p' q' _ w10 hr'.out ha'.out
  rw [w_num2] at hN
  go_wp2_with fail
  refine hN.mono ?_
  clear hN
  rintro e w11 ⟨rfl, hrN, hon⟩
  have b11 := Lib.hid (only_old b10.out hon (by rintro k rfl; exact d11) b10.out.size)
  replace hr := Lib.hid (hr.out.but hon d1 d2)
  replace hr2 := Lib.hid (hr2.out.but hon (Ne.symm d7) d9)
  replace hr' := Lib.hid hrN
  clear hon hrN b10
  have hN := num_any p2 q2 _ w11 hr2.out ha2.out
  rw [w_num3] at hN
  go_wp2_with fail
  refine hN.mono ?_
  clear hN
  rintro e w12 ⟨rfl, hrN, hon⟩
  have b12 := Lib.hid (only_old b11.out hon (by rintro k rfl; exact d12) b11.out.size)
  replace hr := Lib.hid (hr.out.but hon d4 d5)
  replace hr' := Lib.hid (hr'.out.but hon d7 d8)
  replace hr2 := Lib.hid hrN
  clear hon hrN b11 d1 d2 d3 d4 d5 d6 d7 d8 d9 d10 d11 d12 ha ha' ha2
  go_wp2_with fail
  refine (eqb_new [64, 37] #[.int .u8 64, .int .u8 37] 2 w12 (hrv.out.later b12.out) rfl rfl (by omega) (bys_dec rfl)).mono ?_
  rintro e w13 ⟨rfl, hb⟩
  have b13 := Lib.hid (later b12.out hb)
  replace hr := Lib.hid (hr.out.later hb)
  replace hr' := Lib.hid (hr'.out.later hb)
  replace hr2 := Lib.hid (hr2.out.later hb)
  clear hb b12
  have hE := end_any p q _ w13 hr.out
  rw [show Oct.fin ⟨[], 0⟩ = 0 from rfl] at hE
  go_wp2_with fail
  refine hE.mono ?_
  clear hE
  rintro e w14 ⟨rfl, rfl⟩
  go_wp2_with fail
  refine (err_any p' q' _ w13 hr'.out).mono ?_
  rintro e w14 ⟨rfl, rfl⟩
  go_wp2_with fail
  refine (err_any p2 q2 _ w13 hr2.out).mono ?_
  rintro e w14 ⟨rfl, rfl⟩
  have hL13 := Lib.hid (hL6.out.later b13.out)
  go_wp2_with fail
  refine (strict_new [64, 37] false #[.int .u8 64, .int .u8 37] 2 w13 hL13.out rfl rfl (by omega) (bys_dec rfl) w_str1).mono ?_
  rintro e w14 ⟨rfl, hb⟩
  have b14 := Lib.hid (later b13.out hb)
  have hL14 := Lib.hid (hL13.out.later hb)
  clear hb b13 hL13
  go_wp2_with fail
  refine (strict_new [37, 123, 189] true #[.int .u8 37, .int .u8 123, .int .u8 189] 3 w14 hL14.out rfl rfl (by omega) (bys_dec rfl) w_str2).mono ?_
  rintro e w15 ⟨rfl, hb⟩
  have b15 := Lib.hid (later b14.out hb)
  clear hb b14 hL14
  go_wp2
  go_ret
  exact ⟨rfl, later hb6.out b15.out⟩
end Go.Proofs.YtpmfaocegkjhmaaDoor
