/-
  Layer 5: the chapter's examples hold.
-/
import Derived.Test.YtpagdcobhbkabaaDoorFrR
namespace Go.Proofs.YtpagdcobhbkabaaDoor
open Go.RowKit Go.Sort Go.Shelf Go.Deep Go.WideShapes

def ak1 : Frm.Ak := ⟨0, [(5, 5)], false, 0, 0, 0⟩
def ak2 : Frm.Ak := ⟨100, [(70, 80), (60, 60)], true, 1, 0, 2⟩
def bt2 : List Int := [3, 64, 80, 64, 100, 1, 10, 8, 0, 1, 0, 2]
theorem fw_b1 : Frm.bytes ak1 = ([2, 5, 0, 0, 0], 0) := by kernel_rfl
theorem fw_b2 : Frm.bytes ak2 = (bt2, 0) := by kernel_rfl
theorem fw_f1 : (decide ((Frm.nxt [2, 5, 0, 0, 6]).2.1 = 0) && decide ((Frm.nxt [2, 5, 0, 0, 6]).2.2 = 50)) = true := by kernel_rfl
theorem fw_f2 : (decide ((Frm.nxt [2, 5, 0, 1, 5, 0, 0]).2.1 = 0) && decide ((Frm.nxt [2, 5, 0, 1, 5, 0, 0]).2.2 = 50)) = true := by kernel_rfl
theorem fw_f3 : (decide ((Frm.nxt [2, 5, 0, 1, 0, 4, 0]).2.1 = 0) && decide ((Frm.nxt [2, 5, 0, 1, 0, 4, 0]).2.2 = 50)) = true := by kernel_rfl
theorem fw_f4 : (decide ((Frm.nxt [4]).2.1 = 0) && decide ((Frm.nxt [4]).2.2 = 50)) = true := by kernel_rfl
theorem fw_f5 : (decide ((Frm.nxt []).2.1 = 0) && decide ((Frm.nxt []).2.2 = 3)) = true := by kernel_rfl
theorem fw_n : Frm.nxt [2, 5, 0, 0, 0, 0] = (ak1, 5, 0) := by kernel_rfl
theorem fw_p1 : Frm.parse [2, 5, 0, 0, 0, 0] = (Frm.zero, 4) := by kernel_rfl
theorem fw_p2 : Frm.parse bt2 = (ak2, 0) := by kernel_rfl
theorem fw_w1 : Frm.waitOk 7 3 = true ∧ Frm.wait 7 3 = 56000 := by constructor <;> kernel_rfl
theorem fw_w2 : Frm.waitOk 9007199254740991 20 = true ∧ Frm.wait 9007199254740991 20 = 9007199254740991 := by constructor <;> kernel_rfl
theorem fw_w3 : Frm.waitOk 1 21 = false := by kernel_rfl
theorem rg_one (W : World) (lo hi : Int) : Rg (W.alloc (.cells #[.int .i64 lo, .int .i64 hi] 36)) (some ⟨W.heap.size, 0, none⟩) 1 1 [(lo, hi)] :=
  ⟨rfl, Nat.le_refl _, by unfold maxLen; omega, .inr ⟨W.heap.size, 0, rfl, (Blk.new W _ _).lt, fun k hk => by
    have hk0 : k = 0 := by simpa using hk
    subst hk0
    have h0 := (Blk.new W 36 #[.int .i64 lo, .int .i64 hi]).cell 0
    have h1 := (Blk.new W 36 #[.int .i64 lo, .int .i64 hi]).cell 1
    exact ⟨h0.trans rfl, h1.trans rfl⟩⟩⟩
theorem rg_two (W : World) (a b c d : Int) : Rg (W.alloc (.cells #[.int .i64 a, .int .i64 b, .int .i64 c, .int .i64 d] 36)) (some ⟨W.heap.size, 0, none⟩) 2 2 [(a, b), (c, d)] :=
  ⟨rfl, Nat.le_refl _, by unfold maxLen; omega, .inr ⟨W.heap.size, 0, rfl, (Blk.new W _ _).lt, fun k hk => by
    have h0 := (Blk.new W 36 #[.int .i64 a, .int .i64 b, .int .i64 c, .int .i64 d]).cell 0
    have h1 := (Blk.new W 36 #[.int .i64 a, .int .i64 b, .int .i64 c, .int .i64 d]).cell 1
    have h2 := (Blk.new W 36 #[.int .i64 a, .int .i64 b, .int .i64 c, .int .i64 d]).cell 2
    have h3 := (Blk.new W 36 #[.int .i64 a, .int .i64 b, .int .i64 c, .int .i64 d]).cell 3
    have hk2 : k = 0 ∨ k = 1 := by simp at hk; omega
    rcases hk2 with rfl | rfl
    · exact ⟨h0.trans rfl, h1.trans rfl⟩
    · exact ⟨h2.trans rfl, h3.trans rfl⟩⟩⟩
theorem s18 {W : World} {g1 g2 g3 : Nat} {t1 t2 t3 : TypeId} {x0 x1 x2 x3 x4 x5 y0 y1 y2 y3 y4 y5 z0 z1 z2 z3 z4 z5 : Value} (h1 : Blk W g1 t1 #[x0, x1, x2, x3, x4, x5]) (h2 : Blk W g2 t2 #[y0, y1, y2, y3, y4, y5]) (h3 : Blk W g3 t3 #[z0, z1, z2, z3, z4, z5]) :
    W.cell? ⟨g1, 0, none⟩ = some x0 ∧ W.cell? ⟨g1, 1, none⟩ = some x1 ∧ W.cell? ⟨g1, 2, none⟩ = some x2 ∧ W.cell? ⟨g1, 3, none⟩ = some x3 ∧ W.cell? ⟨g1, 4, none⟩ = some x4 ∧ W.cell? ⟨g1, 5, none⟩ = some x5 ∧ W.cell? ⟨g2, 0, none⟩ = some y0 ∧ W.cell? ⟨g2, 1, none⟩ = some y1 ∧ W.cell? ⟨g2, 2, none⟩ = some y2 ∧ W.cell? ⟨g2, 3, none⟩ = some y3 ∧ W.cell? ⟨g2, 4, none⟩ = some y4 ∧ W.cell? ⟨g2, 5, none⟩ = some y5 ∧ W.cell? ⟨g3, 0, none⟩ = some z0 ∧ W.cell? ⟨g3, 1, none⟩ = some z1 ∧ W.cell? ⟨g3, 2, none⟩ = some z2 ∧ W.cell? ⟨g3, 3, none⟩ = some z3 ∧ W.cell? ⟨g3, 4, none⟩ = some z4 ∧ W.cell? ⟨g3, 5, none⟩ = some z5 :=
  ⟨(h1.cell 0).trans rfl, (h1.cell 1).trans rfl, (h1.cell 2).trans rfl, (h1.cell 3).trans rfl, (h1.cell 4).trans rfl, (h1.cell 5).trans rfl, (h2.cell 0).trans rfl, (h2.cell 1).trans rfl, (h2.cell 2).trans rfl, (h2.cell 3).trans rfl, (h2.cell 4).trans rfl, (h2.cell 5).trans rfl, (h3.cell 0).trans rfl, (h3.cell 1).trans rfl, (h3.cell 2).trans rfl, (h3.cell 3).trans rfl, (h3.cell 4).trans rfl, (h3.cell 5).trans rfl⟩
set_option maxHeartbeats 4000000 in
set_option maxRecDepth 100000 in
theorem fworks_any (w : World) (hL : Lim w) : Calls Tryd.prog 23 #[] w fun e w' => e = .returned (.bool true) ∧ Below w.heap.size w w' := by
  have h0 := hL.lt
  have hr2 := rg_two w 70 80 60 60
  have hw1 := laterA (Below.refl w.heap.size w) (.cells #[.int .i64 70, .int .i64 80, .int .i64 60, .int .i64 60] 36)
  obtain ⟨Wa, hWa⟩ : ∃ W, w.alloc (.cells #[.int .i64 70, .int .i64 80, .int .i64 60, .int .i64 60] 36) = W := ⟨_, rfl⟩
  have hsa : Wa.heap.size = w.heap.size + 1 := by rw [← hWa]; simp
  rw [hWa] at hr2 hw1
  have hb2 := Blk.new Wa 25 #[.int .i64 100, .slice (some ⟨w.heap.size, 0, none⟩) 2 2, .bool true, .int .i64 1, .int .i64 0, .int .i64 2]
  have hw2 := laterA hw1 (.cells #[.int .i64 100, .slice (some ⟨w.heap.size, 0, none⟩) 2 2, .bool true, .int .i64 1, .int .i64 0, .int .i64 2] 25)
  replace hr2 := hr2.later (laterA (Below.refl Wa.heap.size Wa) (.cells #[.int .i64 100, .slice (some ⟨w.heap.size, 0, none⟩) 2 2, .bool true, .int .i64 1, .int .i64 0, .int .i64 2] 25))
  obtain ⟨Wb, hWb⟩ : ∃ W, Wa.alloc (.cells #[.int .i64 100, .slice (some ⟨w.heap.size, 0, none⟩) 2 2, .bool true, .int .i64 1, .int .i64 0, .int .i64 2] 25) = W := ⟨_, rfl⟩
  have hsb : Wb.heap.size = w.heap.size + 1 + 1 := by rw [← hWb]; simp; omega
  rw [hWb] at hb2 hw2 hr2
  rw [hsa] at hb2
  have hr1 := rg_one Wb 5 5
  have hw3 := laterA (Below.refl Wb.heap.size Wb) (.cells #[.int .i64 5, .int .i64 5] 36)
  have hO := one_any (some ⟨w.heap.size + 1 + 1, 0, none⟩) 1 1 [(5, 5)] (Wb.alloc (.cells #[.int .i64 5, .int .i64 5] 36))
  rw [hsb] at hr1
  rw [show (⟨0, [(5, 5)], false, 0, 0, 0⟩ : Frm.Ak) = ak1 from rfl] at hO
  replace hL := Lib.hid hL
  replace hr2 := Lib.hid hr2
  replace hw1 := Lib.hid hw1
  replace hb2 := Lib.hid hb2
  replace hw2 := Lib.hid hw2
  replace hr1 := Lib.hid hr1
  replace hw3 := Lib.hid hw3
  replace hWa := Lib.hid hWa
  replace hWb := Lib.hid hWb
  go_enter Tryd.func23, Tryd.ntmps23
  go_wp2_with fail
  rw [hWa.out, hWb.out]
  with_reducible refine hO.mono ?_
  clear hO
  rintro e w1 ⟨rfl, hw1'⟩
  have hb34 := laterA hw3.out (.cells #[.int .i64 0, .slice (some ⟨w.heap.size + 1 + 1, 0, none⟩) 1 1, .bool false, .int .i64 0, .int .i64 0, .int .i64 0] 25)
  have hr1' := hr1.out.later (laterA (Below.refl _ _) (.cells #[.int .i64 0, .slice (some ⟨w.heap.size + 1 + 1, 0, none⟩) 1 1, .bool false, .int .i64 0, .int .i64 0, .int .i64 0] 25))
  rw [← hw1'] at hb34 hr1'
  have hlow := Lib.hid (old_later2 hw2.out hb34 hw2.out.size)
  have hrg2 := Lib.hid (hr2.out.later hb34)
  have htwo := Lib.hid (hb2.out.later hb34)
  clear hw1 hw2 hb2 hr1 hw3 hWa hWb hr2 hsa hsb hw1' hb34
  have hB := bytes_any ak1 (some ⟨w.heap.size + 1 + 1, 0, none⟩) 1 1 w1 (hL.out.later hlow.out) hr1' (by omega)
  rw [fw_b1] at hB
  replace hB := hB.mono (R' := fun e w' => ∃ q A c, e = .returned (.tuple #[.slice A 5 c, .int .i64 0]) ∧ Sl w' q A 5 c [2, 5, 0, 0, 0] ∧ Below w1.heap.size w1 w') (fun _ _ h => h)
  clear hr1'
  go_wp2_with fail
  with_reducible refine hB.mono ?_
  clear hB
  rintro e w2 ⟨qa, Aa, ca, rfl, hsa, hb⟩
  have sa := Lib.hid hsa
  have hbs := Lib.hid hb
  clear hsa hb
  replace hlow := Lib.hid (old_later2 hlow.out hbs.out hlow.out.size)
  replace hrg2 := Lib.hid (hrg2.out.later hbs.out)
  replace htwo := Lib.hid (htwo.out.later hbs.out)
  clear hbs
  have hB := bytes_any ak2 (some ⟨w.heap.size, 0, none⟩) 2 2 w2 (hL.out.later hlow.out) hrg2.out (by omega)
  rw [fw_b2] at hB
  replace hB := hB.mono (R' := fun e w' => ∃ q A c, e = .returned (.tuple #[.slice A 12 c, .int .i64 0]) ∧ Sl w' q A 12 c bt2 ∧ Below w2.heap.size w2 w') (fun _ _ h => h)
  simp only [av, ak2] at hB
  have c0 := htwo.out.cell 0
  have c1 := htwo.out.cell 1
  have c2 := htwo.out.cell 2
  have c3 := htwo.out.cell 3
  have c4 := htwo.out.cell 4
  have c5 := htwo.out.cell 5
  simp at c0 c1 c2 c3 c4 c5
  go_wp2_with fail
  with_reducible refine hB.mono ?_
  clear hB c0 c1 c2 c3 c4 c5
  rintro e w3 ⟨qb, Ab, cb, rfl, hsb, hb⟩
  have sb := Lib.hid hsb
  have hbs := Lib.hid hb
  clear hsb hb
  replace hlow := Lib.hid (old_later2 hlow.out hbs.out hlow.out.size)
  replace hrg2 := Lib.hid (hrg2.out.later hbs.out)
  replace htwo := Lib.hid (htwo.out.later hbs.out)
  replace sa := Lib.hid (sa.out.later hbs.out)
  clear hbs
  have hE := eqb_same (sa.out.later (laterA (Below.refl w3.heap.size w3) (.cells #[.int .u8 2, .int .u8 5, .int .u8 0, .int .u8 0, .int .u8 0] 5))).rb (sl_new w3 [2, 5, 0, 0, 0] #[.int .u8 2, .int .u8 5, .int .u8 0, .int .u8 0, .int .u8 0] 5 rfl rfl (by unfold maxLen; omega)).rb (bys_dec (by kernel_rfl))
  go_wp2_with fail
  with_reducible refine hE.mono ?_
  clear hE
  rintro e w4 ⟨rfl, hw4⟩
  have hbs := Lib.hid (laterA (Below.refl w3.heap.size w3) (.cells #[.int .u8 2, .int .u8 5, .int .u8 0, .int .u8 0, .int .u8 0] 5))
  rw [hw4] at hbs
  clear hw4
  replace hlow := Lib.hid (old_later2 hlow.out hbs.out hlow.out.size)
  replace hrg2 := Lib.hid (hrg2.out.later hbs.out)
  replace htwo := Lib.hid (htwo.out.later hbs.out)
  replace sa := Lib.hid (sa.out.later hbs.out)
  replace sb := Lib.hid (sb.out.later hbs.out)
  clear hbs
  have hE := eqb_same (sb.out.later (laterA (Below.refl w4.heap.size w4) (.cells #[.int .u8 3, .int .u8 64, .int .u8 80, .int .u8 64, .int .u8 100, .int .u8 1, .int .u8 10, .int .u8 8, .int .u8 0, .int .u8 1, .int .u8 0, .int .u8 2] 5))).rb (sl_new w4 bt2 #[.int .u8 3, .int .u8 64, .int .u8 80, .int .u8 64, .int .u8 100, .int .u8 1, .int .u8 10, .int .u8 8, .int .u8 0, .int .u8 1, .int .u8 0, .int .u8 2] 12 rfl rfl (by unfold maxLen; omega)).rb (bys_dec (by kernel_rfl))
  go_wp2_with fail
  with_reducible refine hE.mono ?_
  clear hE
  rintro e w5 ⟨rfl, hw5⟩
  have hbs := Lib.hid (laterA (Below.refl w4.heap.size w4) (.cells #[.int .u8 3, .int .u8 64, .int .u8 80, .int .u8 64, .int .u8 100, .int .u8 1, .int .u8 10, .int .u8 8, .int .u8 0, .int .u8 1, .int .u8 0, .int .u8 2] 5))
  rw [hw5] at hbs
  clear hw5
  replace hlow := Lib.hid (old_later2 hlow.out hbs.out hlow.out.size)
  replace hrg2 := Lib.hid (hrg2.out.later hbs.out)
  replace htwo := Lib.hid (htwo.out.later hbs.out)
  replace sa := Lib.hid (sa.out.later hbs.out)
  replace sb := Lib.hid (sb.out.later hbs.out)
  clear hbs
  have hF := fails_any 50 (some ⟨w5.heap.size, 0, none⟩) 5 5 _ [2, 5, 0, 0, 6] _ (by simp) (sl_new w5 [2, 5, 0, 0, 6] #[.int .u8 2, .int .u8 5, .int .u8 0, .int .u8 0, .int .u8 6] 5 rfl rfl (by unfold maxLen; omega)) (by omega) (bys_dec (by kernel_rfl))
  rw [fw_f1] at hF
  go_wp2_with fail
  with_reducible refine hF.mono ?_
  clear hF
  rintro e w6 ⟨rfl, hb⟩
  have hbs := Lib.hid (later (laterA (Below.refl w5.heap.size w5) (.cells #[.int .u8 2, .int .u8 5, .int .u8 0, .int .u8 0, .int .u8 6] 5)) hb)
  clear hb
  replace hlow := Lib.hid (old_later2 hlow.out hbs.out hlow.out.size)
  replace hrg2 := Lib.hid (hrg2.out.later hbs.out)
  replace htwo := Lib.hid (htwo.out.later hbs.out)
  replace sa := Lib.hid (sa.out.later hbs.out)
  replace sb := Lib.hid (sb.out.later hbs.out)
  clear hbs
  have hF := fails_any 50 (some ⟨w6.heap.size, 0, none⟩) 7 7 _ [2, 5, 0, 1, 5, 0, 0] _ (by simp) (sl_new w6 [2, 5, 0, 1, 5, 0, 0] #[.int .u8 2, .int .u8 5, .int .u8 0, .int .u8 1, .int .u8 5, .int .u8 0, .int .u8 0] 7 rfl rfl (by unfold maxLen; omega)) (by omega) (bys_dec (by kernel_rfl))
  rw [fw_f2] at hF
  go_wp2_with fail
  with_reducible refine hF.mono ?_
  clear hF
  rintro e w7 ⟨rfl, hb⟩
  have hbs := Lib.hid (later (laterA (Below.refl w6.heap.size w6) (.cells #[.int .u8 2, .int .u8 5, .int .u8 0, .int .u8 1, .int .u8 5, .int .u8 0, .int .u8 0] 5)) hb)
  clear hb
  replace hlow := Lib.hid (old_later2 hlow.out hbs.out hlow.out.size)
  replace hrg2 := Lib.hid (hrg2.out.later hbs.out)
  replace htwo := Lib.hid (htwo.out.later hbs.out)
  replace sa := Lib.hid (sa.out.later hbs.out)
  replace sb := Lib.hid (sb.out.later hbs.out)
  clear hbs
  have hF := fails_any 50 (some ⟨w7.heap.size, 0, none⟩) 7 7 _ [2, 5, 0, 1, 0, 4, 0] _ (by simp) (sl_new w7 [2, 5, 0, 1, 0, 4, 0] #[.int .u8 2, .int .u8 5, .int .u8 0, .int .u8 1, .int .u8 0, .int .u8 4, .int .u8 0] 7 rfl rfl (by unfold maxLen; omega)) (by omega) (bys_dec (by kernel_rfl))
  rw [fw_f3] at hF
  go_wp2_with fail
  with_reducible refine hF.mono ?_
  clear hF
  rintro e w8 ⟨rfl, hb⟩
  have hbs := Lib.hid (later (laterA (Below.refl w7.heap.size w7) (.cells #[.int .u8 2, .int .u8 5, .int .u8 0, .int .u8 1, .int .u8 0, .int .u8 4, .int .u8 0] 5)) hb)
  clear hb
  replace hlow := Lib.hid (old_later2 hlow.out hbs.out hlow.out.size)
  replace hrg2 := Lib.hid (hrg2.out.later hbs.out)
  replace htwo := Lib.hid (htwo.out.later hbs.out)
  replace sa := Lib.hid (sa.out.later hbs.out)
  replace sb := Lib.hid (sb.out.later hbs.out)
  clear hbs
  have hF := fails_any 50 (some ⟨w8.heap.size, 0, none⟩) 1 1 _ [4] _ (by simp) (sl_new w8 [4] #[.int .u8 4] 1 rfl rfl (by unfold maxLen; omega)) (by omega) (bys_dec (by kernel_rfl))
  rw [fw_f4] at hF
  go_wp2_with fail
  with_reducible refine hF.mono ?_
  clear hF
  rintro e w9 ⟨rfl, hb⟩
  have hbs := Lib.hid (later (laterA (Below.refl w8.heap.size w8) (.cells #[.int .u8 4] 5)) hb)
  clear hb
  replace hlow := Lib.hid (old_later2 hlow.out hbs.out hlow.out.size)
  replace hrg2 := Lib.hid (hrg2.out.later hbs.out)
  replace htwo := Lib.hid (htwo.out.later hbs.out)
  replace sa := Lib.hid (sa.out.later hbs.out)
  replace sb := Lib.hid (sb.out.later hbs.out)
  clear hbs
  have hF := fails_any 3 none 0 0 0 [] w9 (Nat.lt_of_lt_of_le h0 hlow.out.size) (Sl.nil _ _) (by omega) (bys_dec (by kernel_rfl))
  rw [fw_f5] at hF
  go_wp2_with fail
  with_reducible refine hF.mono ?_
  clear hF
  rintro e w10 ⟨rfl, hb⟩
  have hbs := Lib.hid hb
  clear hb
  replace hlow := Lib.hid (old_later2 hlow.out hbs.out hlow.out.size)
  replace hrg2 := Lib.hid (hrg2.out.later hbs.out)
  replace htwo := Lib.hid (htwo.out.later hbs.out)
  replace sa := Lib.hid (sa.out.later hbs.out)
  replace sb := Lib.hid (sb.out.later hbs.out)
  clear hbs
  have hN := next_any (some ⟨w10.heap.size, 0, none⟩) 6 6 _ [2, 5, 0, 0, 0, 0] _ (by simp) (sl_new w10 [2, 5, 0, 0, 0, 0] #[.int .u8 2, .int .u8 5, .int .u8 0, .int .u8 0, .int .u8 0, .int .u8 0] 6 rfl rfl (by unfold maxLen; omega)) (by omega) (bys_dec (by kernel_rfl))
  rw [fw_n] at hN
  go_wp2_with fail
  with_reducible refine hN.mono ?_
  clear hN
  rintro e w11 ⟨Ac, nc, cc, rfl, hrc, _, hb⟩
  have hbs := Lib.hid (later (laterA (Below.refl w10.heap.size w10) (.cells #[.int .u8 2, .int .u8 5, .int .u8 0, .int .u8 0, .int .u8 0, .int .u8 0] 5)) hb)
  clear hb
  replace hlow := Lib.hid (old_later2 hlow.out hbs.out hlow.out.size)
  replace hrg2 := Lib.hid (hrg2.out.later hbs.out)
  replace htwo := Lib.hid (htwo.out.later hbs.out)
  replace sa := Lib.hid (sa.out.later hbs.out)
  replace sb := Lib.hid (sb.out.later hbs.out)
  clear hbs
  simp only [av, ak1]
  have hbC := Blk.new w11 25 #[.int .i64 0, .slice Ac nc cc, .bool false, .int .i64 0, .int .i64 0, .int .i64 0]
  have hP := parse_any _ 6 6 _ [2, 5, 0, 0, 0, 0] _ (sl_new (w11.alloc (.cells #[.int .i64 0, .slice Ac nc cc, .bool false, .int .i64 0, .int .i64 0, .int .i64 0] 25)) [2, 5, 0, 0, 0, 0] #[.int .u8 2, .int .u8 5, .int .u8 0, .int .u8 0, .int .u8 0, .int .u8 0] 6 rfl rfl (by unfold maxLen; omega)) (by omega) (bys_dec (by kernel_rfl))
  rw [fw_p1] at hP
  simp only [World.size_alloc] at hP
  have hcc := laterA (Below.refl w11.heap.size w11) (.cells #[.int .i64 0, .slice Ac nc cc, .bool false, .int .i64 0, .int .i64 0, .int .i64 0] 25)
  have hc6 := laterA (Below.refl (w11.alloc (.cells #[.int .i64 0, .slice Ac nc cc, .bool false, .int .i64 0, .int .i64 0, .int .i64 0] 25)).heap.size (w11.alloc (.cells #[.int .i64 0, .slice Ac nc cc, .bool false, .int .i64 0, .int .i64 0, .int .i64 0] 25))) (.cells #[.int .u8 2, .int .u8 5, .int .u8 0, .int .u8 0, .int .u8 0, .int .u8 0] 5)
  replace hcc := Lib.hid hcc
  replace hc6 := Lib.hid hc6
  replace hbC := Lib.hid hbC
  replace hrc := Lib.hid hrc
  go_wp2_with fail
  with_reducible refine hP.mono ?_
  clear hP
  rintro e w12 ⟨Az, nz, cz, rfl, _, _, hb⟩
  have hbs := Lib.hid (later (laterA (laterA (Below.refl w11.heap.size w11) (.cells #[.int .i64 0, .slice Ac nc cc, .bool false, .int .i64 0, .int .i64 0, .int .i64 0] 25)) (.cells #[.int .u8 2, .int .u8 5, .int .u8 0, .int .u8 0, .int .u8 0, .int .u8 0] 5)) hb)
  have bC := Lib.hid (hbC.out.later (old_later2 hc6.out hb hc6.out.size))
  have rC := Lib.hid (hrc.out.later hbs.out)
  clear hb hbC hrc hcc hc6
  replace hlow := Lib.hid (old_later2 hlow.out hbs.out hlow.out.size)
  replace hrg2 := Lib.hid (hrg2.out.later hbs.out)
  replace htwo := Lib.hid (htwo.out.later hbs.out)
  replace sb := Lib.hid (sb.out.later hbs.out)
  clear hbs
  simp only [av, Frm.zero]
  have hz := laterA (Below.refl w12.heap.size w12) (.cells #[.int .i64 0, .slice Az nz cz, .bool false, .int .i64 0, .int .i64 0, .int .i64 0] 25)
  have hP := parse_any Ab 12 cb qb bt2 (w12.alloc (.cells #[.int .i64 0, .slice Az nz cz, .bool false, .int .i64 0, .int .i64 0, .int .i64 0] 25)) (sb.out.later hz) (by omega) (bys_dec (by kernel_rfl))
  rw [fw_p2] at hP
  replace hz := Lib.hid hz
  go_wp2_with fail
  with_reducible refine hP.mono ?_
  clear hP
  rintro e w13 ⟨Ad, nd, cd, rfl, hrd, _, hb⟩
  have hbs := Lib.hid (later hz.out hb)
  clear hb hz
  have rD := Lib.hid hrd
  clear hrd
  replace hlow := Lib.hid (old_later2 hlow.out hbs.out hlow.out.size)
  replace hrg2 := Lib.hid (hrg2.out.later hbs.out)
  replace htwo := Lib.hid (htwo.out.later hbs.out)
  replace bC := Lib.hid (bC.out.later hbs.out)
  replace rC := Lib.hid (rC.out.later hbs.out)
  clear hbs
  simp only [av, ak2]
  have hbD := Blk.new w13 25 #[.int .i64 100, .slice Ad nd cd, .bool true, .int .i64 1, .int .i64 0, .int .i64 2]
  have hbs := laterA (Below.refl w13.heap.size w13) (.cells #[.int .i64 100, .slice Ad nd cd, .bool true, .int .i64 1, .int .i64 0, .int .i64 2] 25)
  have hW := fwait_any 7 3 (w13.alloc (.cells #[.int .i64 100, .slice Ad nd cd, .bool true, .int .i64 1, .int .i64 0, .int .i64 2] 25))
  rw [if_pos fw_w1.1, if_pos fw_w1.1, fw_w1.2] at hW
  replace hbs := Lib.hid hbs
  replace hbD := Lib.hid hbD
  replace hlow := Lib.hid (old_later2 hlow.out hbs.out hlow.out.size)
  replace hrg2 := Lib.hid (hrg2.out.later hbs.out)
  replace htwo := Lib.hid (htwo.out.later hbs.out)
  replace bC := Lib.hid (bC.out.later hbs.out)
  replace rC := Lib.hid (rC.out.later hbs.out)
  replace rD := Lib.hid (rD.out.later hbs.out)
  clear hbs
  go_wp2_with fail
  with_reducible refine hW.mono ?_
  clear hW
  rintro e w14 ⟨rfl, hb⟩
  have hbs := Lib.hid hb
  clear hb
  have bD := hbD
  clear hbD
  replace hlow := Lib.hid (old_later2 hlow.out hbs.out hlow.out.size)
  replace hrg2 := Lib.hid (hrg2.out.later hbs.out)
  replace htwo := Lib.hid (htwo.out.later hbs.out)
  replace bC := Lib.hid (bC.out.later hbs.out)
  replace rC := Lib.hid (rC.out.later hbs.out)
  replace rD := Lib.hid (rD.out.later hbs.out)
  replace bD := Lib.hid (bD.out.later hbs.out)
  clear hbs
  have hW := fwait_any 9007199254740991 20 w14
  rw [if_pos fw_w2.1, if_pos fw_w2.1, fw_w2.2] at hW
  go_wp2_with fail
  with_reducible refine hW.mono ?_
  clear hW
  rintro e w15 ⟨rfl, hb⟩
  have hbs := Lib.hid hb
  clear hb
  replace hlow := Lib.hid (old_later2 hlow.out hbs.out hlow.out.size)
  replace hrg2 := Lib.hid (hrg2.out.later hbs.out)
  replace htwo := Lib.hid (htwo.out.later hbs.out)
  replace bC := Lib.hid (bC.out.later hbs.out)
  replace rC := Lib.hid (rC.out.later hbs.out)
  replace rD := Lib.hid (rD.out.later hbs.out)
  replace bD := Lib.hid (bD.out.later hbs.out)
  clear hbs
  have hW := fwait_any 1 21 w15
  rw [if_neg (by rw [fw_w3]; decide), if_neg (by rw [fw_w3]; decide)] at hW
  go_wp2_with fail
  with_reducible refine hW.mono ?_
  clear hW
  rintro e w16 ⟨rfl, hb⟩
  have hbs := Lib.hid hb
  clear hb
  replace hlow := Lib.hid (old_later2 hlow.out hbs.out hlow.out.size)
  replace hrg2 := Lib.hid (hrg2.out.later hbs.out)
  replace htwo := Lib.hid (htwo.out.later hbs.out)
  replace bC := Lib.hid (bC.out.later hbs.out)
  replace rC := Lib.hid (rC.out.later hbs.out)
  replace rD := Lib.hid (rD.out.later hbs.out)
  replace bD := Lib.hid (bD.out.later hbs.out)
  clear hbs
  go_wp2_with fail
  have hO := one_any (some ⟨w16.heap.size, 0, none⟩) 1 1 [(5, 5)] ((w16.alloc (.cells #[.int .i64 5, .int .i64 5] 36)).drew)
  have hx := laterA (Below.refl w16.heap.size w16) (.cells #[.int .i64 5, .int .i64 5] 36)
  have hxd : Below w16.heap.size w16 (w16.alloc (.cells #[.int .i64 5, .int .i64 5] 36)).drew := laterD_ hx
  have hy : Below w16.heap.size w16 ((w16.alloc (.cells #[.int .i64 5, .int .i64 5] 36)).alloc (.cells #[.int .i64 0, .slice (some ⟨w16.heap.size, 0, none⟩) 1 1, .bool false, .int .i64 0, .int .i64 0, .int .i64 0] 25)).drew := laterD_ (laterA hx (.cells #[.int .i64 0, .slice (some ⟨w16.heap.size, 0, none⟩) 1 1, .bool false, .int .i64 0, .int .i64 0, .int .i64 0] 25))
  have rO : Rg ((w16.alloc (.cells #[.int .i64 5, .int .i64 5] 36)).alloc (.cells #[.int .i64 0, .slice (some ⟨w16.heap.size, 0, none⟩) 1 1, .bool false, .int .i64 0, .int .i64 0, .int .i64 0] 25)).drew (some ⟨w16.heap.size, 0, none⟩) 1 1 [(5, 5)] := (rg_one w16 5 5).later (laterD_ (laterA (Below.refl _ _) (.cells #[.int .i64 0, .slice (some ⟨w16.heap.size, 0, none⟩) 1 1, .bool false, .int .i64 0, .int .i64 0, .int .i64 0] 25)))
  have hS1 := fsame_any ak1 ak1 Ac (some ⟨w16.heap.size, 0, none⟩) nc cc 1 1 _ (rC.out.later hy) rO (by have := rC.out.1; simp [ak1] at this; omega)
  have hS2 := fun W (h : Below w16.heap.size w16 W) => fsame_any ak2 ak2 Ad (some ⟨w.heap.size, 0, none⟩) nd cd 2 2 W (rD.out.later h) (hrg2.out.later h) (by have := rD.out.1; simp [ak2] at this; omega)
  rw [show Frm.sm ak1 ak1 = true from by kernel_rfl] at hS1
  simp only [show Frm.sm ak2 ak2 = true from by kernel_rfl] at hS2
  simp only [av, ak1] at hS1 hO
  simp only [av, ak2] at hS2
  have k1 := htwo.out
  have k2 := bC.out
  have k3 := bD.out
  have hlt1 := k1.lt
  have l1 := k1.later hxd
  have l2 := k2.later hxd
  have l3 := k3.later hxd
  have m1 := k1.later hy
  have m2 := k2.later hy
  have m3 := k3.later hy
  replace hO := Lib.hid hO
  replace hx := Lib.hid hx
  replace hxd := Lib.hid hxd
  replace hy := Lib.hid hy
  replace rO := Lib.hid rO
  replace hS1 := Lib.hid hS1
  replace hS2 := Lib.hid hS2
  replace k1 := Lib.hid k1
  replace k2 := Lib.hid k2
  replace k3 := Lib.hid k3
  replace l1 := Lib.hid l1
  replace l2 := Lib.hid l2
  replace l3 := Lib.hid l3
  replace m1 := Lib.hid m1
  replace m2 := Lib.hid m2
  replace m3 := Lib.hid m3
  clear hL htwo bC bD rC rD hrg2
  go_region_held3 (fun w' => w'.cell? ⟨w.heap.size + 1, 0, none⟩ = some (.int .i64 100) ∧ w'.cell? ⟨w.heap.size + 1, 1, none⟩ = some (.slice (some ⟨w.heap.size, 0, none⟩) 2 2) ∧ w'.cell? ⟨w.heap.size + 1, 2, none⟩ = some (.bool true) ∧ w'.cell? ⟨w.heap.size + 1, 3, none⟩ = some (.int .i64 1) ∧ w'.cell? ⟨w.heap.size + 1, 4, none⟩ = some (.int .i64 0) ∧ w'.cell? ⟨w.heap.size + 1, 5, none⟩ = some (.int .i64 2) ∧ w'.cell? ⟨w11.heap.size, 0, none⟩ = some (.int .i64 0) ∧ w'.cell? ⟨w11.heap.size, 1, none⟩ = some (.slice Ac nc cc) ∧ w'.cell? ⟨w11.heap.size, 2, none⟩ = some (.bool false) ∧ w'.cell? ⟨w11.heap.size, 3, none⟩ = some (.int .i64 0) ∧ w'.cell? ⟨w11.heap.size, 4, none⟩ = some (.int .i64 0) ∧ w'.cell? ⟨w11.heap.size, 5, none⟩ = some (.int .i64 0) ∧ w'.cell? ⟨w13.heap.size, 0, none⟩ = some (.int .i64 100) ∧ w'.cell? ⟨w13.heap.size, 1, none⟩ = some (.slice Ad nd cd) ∧ w'.cell? ⟨w13.heap.size, 2, none⟩ = some (.bool true) ∧ w'.cell? ⟨w13.heap.size, 3, none⟩ = some (.int .i64 1) ∧ w'.cell? ⟨w13.heap.size, 4, none⟩ = some (.int .i64 0) ∧ w'.cell? ⟨w13.heap.size, 5, none⟩ = some (.int .i64 2)) (first | exact s18 k1.out k2.out k3.out | exact s18 l1.out l2.out l3.out | exact s18 m1.out m2.out m3.out | exact s18 n1.out n2.out n3.out | exact s18 o1.out o2.out o3.out | fail) (first | (go_at_call 45; (with_reducible refine hO.out.mono ?_); rintro e w17 ⟨rfl, hw17⟩; subst hw17) | (go_at_call 18; (with_reducible refine hS1.out.mono ?_); rintro e w18 ⟨rfl, hb18⟩; have h18 := Lib.hid (later hy.out hb18); have n1 := Lib.hid (k1.out.later h18.out); have n2 := Lib.hid (k2.out.later h18.out); have n3 := Lib.hid (k3.out.later h18.out)) | (go_at_call 18; (with_reducible refine (hS2.out _ h18.out).mono ?_); rintro e w19 ⟨rfl, hb19⟩; have h19 := Lib.hid (later h18.out hb19); have o1 := Lib.hid (k1.out.later h19.out); have o2 := Lib.hid (k2.out.later h19.out); have o3 := Lib.hid (k3.out.later h19.out)) | fail)
  go_wp2_with fail
  go_ret
  exact ⟨rfl, old_later2 hlow.out h19.out hlow.out.size⟩
end Go.Proofs.YtpagdcobhbkabaaDoor
