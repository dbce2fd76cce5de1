/-
  Layer 13: the contracts with what they come to under names; sounderlaw13's works, rate, same.
-/
import Derived.Test.YtniiemmgcjkphaaBktF
import Derived.Test.YtniiemmgcjkphaaBktG
import Derived.Test.YtniiemmgcjkphaaBring
namespace Go.Proofs.Ytniiemmgcjkphaa
open Go.RowKit Go.Sort

theorem fill_to (b : Nat) (s : Bkt.St) (t num den : Int) (x : Int) (s' : Bkt.St) (w : World) (h : Bk w b s) (hw : Bkt.wf s) (he : Bkt.fillE s t num den = x) (hs : Bkt.fillS s t num den = s') :
    Calls Try.prog 19 #[.pointer (some ⟨b, 0, none⟩), .int .i64 t, .agg #[.int .i64 num, .int .i64 den]] w fun e w' => e = .returned (.int .i64 x) ∧ Bk w' b s' ∧ w.grownBy w' (some b) := by
  subst he hs; exact fill_any b s t num den w h hw
theorem take_to (b : Nat) (s : Bkt.St) (k : Int) (x : Int) (s' : Bkt.St) (w : World) (h : Bk w b s) (hw : Bkt.wf s) (he : Bkt.takeE s k = x) (hs : Bkt.takeS s k = s') :
    Calls Try.prog 18 #[.pointer (some ⟨b, 0, none⟩), .int .i64 k] w fun e w' => e = .returned (.int .i64 x) ∧ Bk w' b s' ∧ w.grownBy w' (some b) := by
  subst he hs; exact take_any b s k w h hw
theorem when_to (b : Nat) (s : Bkt.St) (k num den : Int) (x : Int) (w : World) (h : Bk w b s) (hw : Bkt.wf s) (he : Bkt.when_ s k num den = x) :
    Calls Try.prog 26 #[.pointer (some ⟨b, 0, none⟩), .int .i64 k, .agg #[.int .i64 num, .int .i64 den]] w fun e w' => e = .returned (.int .i64 x) ∧ Below w.heap.size w w' := by
  subst he; exact when_any b s k num den w h hw

theorem bworks_states : Bkt.wf ⟨1000, 1000, 0, 0, 0, 0⟩ ∧ Bkt.wf ⟨1000, 0, 0, 0, 0, 0⟩ ∧ Bkt.wf ⟨1000, 4, 2, 10, 3, 7⟩ ∧ Bkt.wf ⟨1000, 5, 1, 12, 3, 7⟩ ∧ Bkt.wf ⟨1000, 1000, 0, 3000, 3, 7⟩ := by
  refine ⟨⟨?_, ?_, ?_, ?_, ?_, ?_, ?_, ?_⟩, ⟨?_, ?_, ?_, ?_, ?_, ?_, ?_, ?_⟩, ⟨?_, ?_, ?_, ?_, ?_, ?_, ?_, ?_⟩, ⟨?_, ?_, ?_, ?_, ?_, ?_, ?_, ?_⟩, ⟨?_, ?_, ?_, ?_, ?_, ?_, ?_, ?_⟩⟩ <;> decide

set_option maxHeartbeats 1000000 in
theorem bworks_any (w : World) :
    Calls Try.prog 22 #[] w fun e w' => e = .returned (.bool true) ∧ Below w.heap.size w w' := by
  obtain ⟨v0, v1, v2, v3, v4⟩ := bworks_states
  go_enter Try.func22, Try.ntmps22
  go_wp2_with fail
  have hr := Blk.new w 25 #[.int .i64 3, .int .i64 7]
  have hb := laterA (Below.refl w.heap.size w) (.cells #[.int .i64 3, .int .i64 7] 25)
  generalize w.alloc _ = W at *
  refine (bnew_ok 1000 0 _ (by decide)).mono ?_
  rintro e w1 ⟨rfl, hk, hbm⟩
  have hne : w.heap.size ≠ W.heap.size := by have := hr.lt; omega
  have hle : w.heap.size ≤ W.heap.size := by have := hr.lt; omega
  replace hr := Lib.hid hr
  replace hb := Lib.hid hb
  replace hk := Lib.hid hk
  replace hr := Lib.hid (Blk.later hr.out hbm)
  replace hb := Lib.hid (later hb.out hbm)
  generalize W.heap.size = b at *
  clear hbm
  have r0 := hr.out.cell 0
  have r1 := hr.out.cell 1
  simp at r0 r1
  go_wp2_with fail
  refine (take_to b ⟨1000, 1000, 0, 0, 0, 0⟩ 1000 0 ⟨1000, 0, 0, 0, 0, 0⟩ _ hk.out v0 rfl rfl).mono ?_
  rintro e w2 ⟨rfl, hk', ho⟩
  replace hk := Lib.hid hk'
  replace hr := Lib.hid (Blk.one hr.out ho hne)
  replace hb := Lib.hid (one_old hb.out ho hle hb.out.size)
  clear ho hk' r0 r1
  have r0 := hr.out.cell 0
  have r1 := hr.out.cell 1
  simp at r0 r1
  go_wp2_with fail
  refine (fill_to b ⟨1000, 0, 0, 0, 0, 0⟩ 10 3 7 0 ⟨1000, 4, 2, 10, 3, 7⟩ _ hk.out v1 rfl rfl).mono ?_
  rintro e w3 ⟨rfl, hk', ho⟩
  replace hk := Lib.hid hk'
  replace hr := Lib.hid (Blk.one hr.out ho hne)
  replace hb := Lib.hid (one_old hb.out ho hle hb.out.size)
  clear ho hk' r0 r1
  have r0 := hr.out.cell 0
  have r1 := hr.out.cell 1
  simp at r0 r1
  go_wp2_with fail
  refine (tokens_any b ⟨1000, 4, 2, 10, 3, 7⟩ _ hk.out v2).mono ?_
  rintro e w4 ⟨rfl, rfl⟩
  go_wp2_with fail
  refine (rest_any b ⟨1000, 4, 2, 10, 3, 7⟩ _ hk.out v2).mono ?_
  rintro e w5 ⟨rfl, rfl⟩
  go_wp2_with fail
  refine (when_to b ⟨1000, 4, 2, 10, 3, 7⟩ 5 3 7 12 _ hk.out v2 rfl).mono ?_
  rintro e w6 ⟨rfl, hbm⟩
  replace hr := Lib.hid (Blk.later hr.out hbm)
  replace hk := Lib.hid (Blk.later hk.out hbm)
  replace hb := Lib.hid (later hb.out hbm)
  clear hbm r0 r1
  have r0 := hr.out.cell 0
  have r1 := hr.out.cell 1
  simp at r0 r1
  go_wp2_with fail
  refine (when_to b ⟨1000, 4, 2, 10, 3, 7⟩ 4 3 7 10 _ hk.out v2 rfl).mono ?_
  rintro e w7 ⟨rfl, hbm⟩
  replace hr := Lib.hid (Blk.later hr.out hbm)
  replace hk := Lib.hid (Blk.later hk.out hbm)
  replace hb := Lib.hid (later hb.out hbm)
  clear hbm r0 r1
  have r0 := hr.out.cell 0
  have r1 := hr.out.cell 1
  simp at r0 r1
  go_wp2_with fail
  refine (fill_to b ⟨1000, 4, 2, 10, 3, 7⟩ 12 3 7 0 ⟨1000, 5, 1, 12, 3, 7⟩ _ hk.out v2 rfl rfl).mono ?_
  rintro e w8 ⟨rfl, hk', ho⟩
  replace hk := Lib.hid hk'
  replace hr := Lib.hid (Blk.one hr.out ho hne)
  replace hb := Lib.hid (one_old hb.out ho hle hb.out.size)
  clear ho hk' r0 r1
  have r0 := hr.out.cell 0
  have r1 := hr.out.cell 1
  simp at r0 r1
  go_wp2_with fail
  refine (tokens_any b ⟨1000, 5, 1, 12, 3, 7⟩ _ hk.out v3).mono ?_
  rintro e w9 ⟨rfl, rfl⟩
  go_wp2_with fail
  refine (rest_any b ⟨1000, 5, 1, 12, 3, 7⟩ _ hk.out v3).mono ?_
  rintro e w10 ⟨rfl, rfl⟩
  go_wp2_with fail
  refine (fill_to b ⟨1000, 5, 1, 12, 3, 7⟩ 11 3 7 210 ⟨1000, 5, 1, 12, 3, 7⟩ _ hk.out v3 rfl rfl).mono ?_
  rintro e w11 ⟨rfl, hk', ho⟩
  replace hk := Lib.hid hk'
  replace hr := Lib.hid (Blk.one hr.out ho hne)
  replace hb := Lib.hid (one_old hb.out ho hle hb.out.size)
  clear ho hk' r0 r1
  have r0 := hr.out.cell 0
  have r1 := hr.out.cell 1
  simp at r0 r1
  go_wp2_with fail
  refine (fill_to b ⟨1000, 5, 1, 12, 3, 7⟩ 3000 3 7 0 ⟨1000, 1000, 0, 3000, 3, 7⟩ _ hk.out v3 rfl rfl).mono ?_
  rintro e w12 ⟨rfl, hk', ho⟩
  replace hk := Lib.hid hk'
  replace hr := Lib.hid (Blk.one hr.out ho hne)
  replace hb := Lib.hid (one_old hb.out ho hle hb.out.size)
  clear ho hk' r0 r1
  have r0 := hr.out.cell 0
  have r1 := hr.out.cell 1
  simp at r0 r1
  go_wp2_with fail
  refine (tokens_any b ⟨1000, 1000, 0, 3000, 3, 7⟩ _ hk.out v4).mono ?_
  rintro e w13 ⟨rfl, rfl⟩
  go_wp2_with fail
  refine (take_to b ⟨1000, 1000, 0, 3000, 3, 7⟩ 1001 5 ⟨1000, 1000, 0, 3000, 3, 7⟩ _ hk.out v4 rfl rfl).mono ?_
  rintro e w14 ⟨rfl, hk', ho⟩
  replace hk := Lib.hid hk'
  replace hr := Lib.hid (Blk.one hr.out ho hne)
  replace hb := Lib.hid (one_old hb.out ho hle hb.out.size)
  clear ho hk' r0 r1
  have r0 := hr.out.cell 0
  have r1 := hr.out.cell 1
  simp at r0 r1
  go_wp2_with fail
  refine (when_to b ⟨1000, 1000, 0, 3000, 3, 7⟩ 1001 3 7 (-1) _ hk.out v4 rfl).mono ?_
  rintro e w15 ⟨rfl, hbm⟩
  replace hr := Lib.hid (Blk.later hr.out hbm)
  replace hk := Lib.hid (Blk.later hk.out hbm)
  replace hb := Lib.hid (later hb.out hbm)
  clear hbm r0 r1
  have r0 := hr.out.cell 0
  have r1 := hr.out.cell 1
  simp at r0 r1
  go_wp2_with fail
  refine (when_to b ⟨1000, 1000, 0, 3000, 3, 7⟩ 1000 3 7 3000 _ hk.out v4 rfl).mono ?_
  rintro e w16 ⟨rfl, hbm⟩
  replace hr := Lib.hid (Blk.later hr.out hbm)
  replace hk := Lib.hid (Blk.later hk.out hbm)
  replace hb := Lib.hid (later hb.out hbm)
  clear hbm r0 r1
  have r0 := hr.out.cell 0
  have r1 := hr.out.cell 1
  simp at r0 r1
  go_wp2_with fail
  refine (time_at b ⟨1000, 1000, 0, 3000, 3, 7⟩ _ hk.out v4).mono ?_
  rintro e w17 ⟨rfl, rfl⟩
  go_wp2_with fail
  go_ret
  exact ⟨rfl, hb.out⟩
end Go.Proofs.Ytniiemmgcjkphaa
