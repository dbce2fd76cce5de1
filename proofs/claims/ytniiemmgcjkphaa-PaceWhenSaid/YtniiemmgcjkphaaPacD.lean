/-
  Layer 14: sounderlaw14's works, same.
-/
import Derived.Test.YtniiemmgcjkphaaPacC
import Derived.Deep.RegionHeld3
namespace Go.Proofs.Ytniiemmgcjkphaa
open Go.RowKit Go.Sort

set_option maxHeartbeats 4000000 in
set_option maxRecDepth 100000 in
theorem psame_any (p b q c : Nat) (s : Pac.St) (t n : Int) (w : World) (hk : Pk w p b s) (hm : RPk w q c s) (hw : Pac.wf s) :
    Calls Try.prog 41 #[.pointer (some ⟨p, 0, none⟩), .pointer (some ⟨q, 0, none⟩), .int .i64 t, .int .i64 n] w fun e w' => e = .returned (.bool true) ∧ Below w.heap.size w w' := by
  replace hk := Lib.hid hk
  replace hm := Lib.hid hm
  go_enter Try.func41, Try.ntmps41
  go_wp2_with fail
  refine (prate_any p b s _ hk.out).mono ?_
  rintro e w1 ⟨rfl, hb⟩
  have hb2 := laterA hb (.cells #[.int .i64 s.num, .int .i64 s.den] 25)
  replace hk := Lib.hid (hk.out.kept hb2).drew
  replace hm := Lib.hid (hm.out.kept hb2).drew
  have hr := (Blk.new w1 25 #[.int .i64 s.num, .int .i64 s.den]).drew
  have HB := Lib.hid (laterD hb2)
  clear hb hb2
  go_wp2_with fail
  generalize w1.heap.size = R at *
  generalize w1.alloc _ = w2 at *
  have r0 := hr.cell 0
  have r1 := hr.cell 1
  have m1 := Blk.cell hm.out.p 1
  have m2 := Blk.cell hm.out.p 2
  simp at r0 r1 m1 m2
  replace hr := Lib.hid hr
  go_region_held3 (fun w' => w'.cell? ⟨R, 0, none⟩ = some (.int .i64 s.num) ∧ w'.cell? ⟨R, 1, none⟩ = some (.int .i64 s.den) ∧ w'.cell? ⟨q, 1, none⟩ = some (.int .i64 s.num) ∧ w'.cell? ⟨q, 2, none⟩ = some (.int .i64 s.den)) (first | exact ⟨r0, r1, m1, m2⟩) (first | (go_at_call 45; (with_reducible refine (pcan_any p b s t n _ hk.out hw).mono ?_); rintro e w1 ⟨rfl, hb⟩; replace hk := Lib.hid (hk.out.kept hb); replace hm := Lib.hid (hm.out.kept hb); replace HB := Lib.hid (old_later HB.out hb HB.out.size); have hr1 := hr.out.later hb; clear r0 r1 m1 m2 hr; have hr := Lib.hid hr1; have r0 := hr1.cell 0; have r1 := hr1.cell 1; have m1 := Blk.cell hm.out.p 1; have m2 := Blk.cell hm.out.p 2; simp at r0 r1 m1 m2; clear hr1 hb) | (go_at_call 72; (with_reducible refine (rpcan_any q c s t n _ hm.out hw).mono ?_); rintro e w1 ⟨rfl, hb⟩; replace hk := Lib.hid (hk.out.kept hb); replace hm := Lib.hid (hm.out.kept hb); replace HB := Lib.hid (old_later HB.out hb HB.out.size); have hr1 := hr.out.later hb; clear r0 r1 m1 m2 hr; have hr := Lib.hid hr1; have r0 := hr1.cell 0; have r1 := hr1.cell 1; have m1 := Blk.cell hm.out.p 1; have m2 := Blk.cell hm.out.p 2; simp at r0 r1 m1 m2; clear hr1 hb) | (go_at_call 44; (with_reducible refine (pwhen_any p b s _ _ hk.out hw).mono ?_); rintro e w1 ⟨rfl, hb⟩; replace hk := Lib.hid (hk.out.kept hb); replace hm := Lib.hid (hm.out.kept hb); replace HB := Lib.hid (old_later HB.out hb HB.out.size); have hr1 := hr.out.later hb; clear r0 r1 m1 m2 hr; have hr := Lib.hid hr1; have r0 := hr1.cell 0; have r1 := hr1.cell 1; have m1 := Blk.cell hm.out.p 1; have m2 := Blk.cell hm.out.p 2; simp at r0 r1 m1 m2; clear hr1 hb) | (go_at_call 73; (with_reducible refine (rpwhen_any q c s _ _ hm.out hw).mono ?_); rintro e w1 ⟨rfl, hb⟩; replace hk := Lib.hid (hk.out.kept hb); replace hm := Lib.hid (hm.out.kept hb); replace HB := Lib.hid (old_later HB.out hb HB.out.size); have hr1 := hr.out.later hb; clear r0 r1 m1 m2 hr; have hr := Lib.hid hr1; have r0 := hr1.cell 0; have r1 := hr1.cell 1; have m1 := Blk.cell hm.out.p 1; have m2 := Blk.cell hm.out.p 2; simp at r0 r1 m1 m2; clear hr1 hb) | (go_at_call 48; (with_reducible refine (pleft_any p b s t _ hk.out hw).mono ?_); rintro e w1 ⟨rfl, hb⟩; replace hk := Lib.hid (hk.out.kept hb); replace hm := Lib.hid (hm.out.kept hb); replace HB := Lib.hid (old_later HB.out hb HB.out.size); have hr1 := hr.out.later hb; clear r0 r1 m1 m2 hr; have hr := Lib.hid hr1; have r0 := hr1.cell 0; have r1 := hr1.cell 1; have m1 := Blk.cell hm.out.p 1; have m2 := Blk.cell hm.out.p 2; simp at r0 r1 m1 m2; clear hr1 hb) | (go_at_call 74; (with_reducible refine (rpleft_any q c s t _ hm.out hw).mono ?_); rintro e w1 ⟨rfl, hb⟩; replace hk := Lib.hid (hk.out.kept hb); replace hm := Lib.hid (hm.out.kept hb); replace HB := Lib.hid (old_later HB.out hb HB.out.size); have hr1 := hr.out.later hb; clear r0 r1 m1 m2 hr; have hr := Lib.hid hr1; have r0 := hr1.cell 0; have r1 := hr1.cell 1; have m1 := Blk.cell hm.out.p 1; have m2 := Blk.cell hm.out.p 2; simp at r0 r1 m1 m2; clear hr1 hb))
  go_wp2_with fail
  go_ret
  exact ⟨rfl, HB.out⟩

theorem pset_to (p b : Nat) (s : Pac.St) (t cwnd smooth : Int) (E : Int) (S : Pac.St) (w : World) (h : Pk w p b s) (hw : Pac.wf s) (he : Pac.setE s t cwnd smooth = E) (hs : Pac.set s t cwnd smooth = S) :
    Calls Try.prog 35 #[.pointer (some ⟨p, 0, none⟩), .int .i64 t, .int .i64 cwnd, .int .i64 smooth] w fun e w' => e = .returned (.int .i64 E) ∧ Pk w' p b S ∧ Only (fun k => k = p ∨ k = b) w w' := by
  subst he hs; exact pset_any p b s t cwnd smooth w h hw
theorem psend_to (p b : Nat) (s : Pac.St) (t n : Int) (E : Int) (S : Pac.St) (w : World) (h : Pk w p b s) (hw : Pac.wf s) (he : Pac.sendE s t n = E) (hs : Pac.send s t n = S) :
    Calls Try.prog 37 #[.pointer (some ⟨p, 0, none⟩), .int .i64 t, .int .i64 n] w (Sends w p b S E) := by
  subst he hs; exact psend_any p b s t n w h hw
theorem wf_eq {a b : Pac.St} (h : Pac.wf a) (e : a = b) : Pac.wf b := e ▸ h

set_option maxHeartbeats 4000000 in
set_option maxRecDepth 100000 in
theorem pworks_any (w : World) :
    Calls Try.prog 34 #[] w fun e w' => e = .returned (.bool true) ∧ Below w.heap.size w w' := by
  have q2 := eq_rate 12000 1 12000 1
  go_enter Try.func34, Try.ntmps34
  go_wp2_with fail
  refine (pnew_ok 3000 0 _ (by decide)).mono ?_
  rintro e w1 ⟨p, b0, hp, hb0, rfl, hk, hb⟩
  replace hk := Lib.hid hk
  replace hb := Lib.hid hb
  have hv := Lib.hid (Pac.wf_start (B := 3000) (t := 0) (by decide))
  go_wp2_with fail
  refine (pset_to p b0 _ 0 12000 6000 0 ⟨⟨3000, 3000, 0, 0, 0, 1⟩, 60000, 24000⟩ _ hk.out hv.out rfl rfl).mono ?_
  rintro e w2 ⟨rfl, hk', ho⟩
  replace hb := Lib.hid (only_old hb.out ho (by rintro k (rfl | rfl); exact hp; exact hb0) hb.out.size)
  replace hv := Lib.hid (wf_eq (Pac.wf_set hv.out 0 12000 6000) (show Pac.set _ 0 12000 6000 = ⟨⟨3000, 3000, 0, 0, 0, 1⟩, 60000, 24000⟩ from rfl))
  replace hk := Lib.hid hk'
  clear ho hk'
  go_wp2_with fail
  refine (psend_to p b0 _ 0 1200 0 ⟨⟨3000, 1800, 0, 0, 60000, 24000⟩, 60000, 24000⟩ _ hk.out hv.out rfl rfl).mono ?_
  rintro e w3 ⟨rfl, b1, hx, hk', ho⟩
  have hb1 : w.heap.size ≤ b1 := by have := hb.out.size; omega
  replace hb := Lib.hid (one_old hb.out ho hp hb.out.size)
  replace hv := Lib.hid (wf_eq (Pac.wf_send hv.out 0 1200) (show Pac.send _ 0 1200 = ⟨⟨3000, 1800, 0, 0, 60000, 24000⟩, 60000, 24000⟩ from rfl))
  replace hk := Lib.hid hk'
  clear ho hk' hx
  go_wp2_with fail
  refine (psend_to p b1 _ 0 1200 0 ⟨⟨3000, 600, 0, 0, 60000, 24000⟩, 60000, 24000⟩ _ hk.out hv.out rfl rfl).mono ?_
  rintro e w4 ⟨rfl, b2, hx, hk', ho⟩
  have hb2 : w.heap.size ≤ b2 := by have := hb.out.size; omega
  replace hb := Lib.hid (one_old hb.out ho hp hb.out.size)
  replace hv := Lib.hid (wf_eq (Pac.wf_send hv.out 0 1200) (show Pac.send _ 0 1200 = ⟨⟨3000, 600, 0, 0, 60000, 24000⟩, 60000, 24000⟩ from rfl))
  replace hk := Lib.hid hk'
  clear ho hk' hx
  go_wp2_with fail
  refine (psend_to p b2 _ 0 1200 213 ⟨⟨3000, 600, 0, 0, 60000, 24000⟩, 60000, 24000⟩ _ hk.out hv.out rfl rfl).mono ?_
  rintro e w5 ⟨rfl, b3, hx, hk', ho⟩
  have hb3 : w.heap.size ≤ b3 := by have := hb.out.size; omega
  replace hb := Lib.hid (one_old hb.out ho hp hb.out.size)
  replace hv := Lib.hid (wf_eq (Pac.wf_send hv.out 0 1200) (show Pac.send _ 0 1200 = ⟨⟨3000, 600, 0, 0, 60000, 24000⟩, 60000, 24000⟩ from rfl))
  replace hk := Lib.hid hk'
  clear ho hk' hx
  go_wp2_with fail
  refine (pwhen_any p b3 ⟨⟨3000, 600, 0, 0, 60000, 24000⟩, 60000, 24000⟩ 1200 _ hk.out hv.out).mono ?_
  rintro e w6 ⟨rfl, hlo⟩
  replace hk := Lib.hid (hk.out.kept hlo)
  replace hb := Lib.hid (old_later hb.out hlo hb.out.size)
  clear hlo
  rw [show Pac.when_ ⟨⟨3000, 600, 0, 0, 60000, 24000⟩, 60000, 24000⟩ 1200 = 240 from rfl]
  go_wp2_with fail
  refine (pleft_any p b3 ⟨⟨3000, 600, 0, 0, 60000, 24000⟩, 60000, 24000⟩ 100 _ hk.out hv.out).mono ?_
  rintro e w7 ⟨rfl, hlo⟩
  replace hk := Lib.hid (hk.out.kept hlo)
  replace hb := Lib.hid (old_later hb.out hlo hb.out.size)
  clear hlo
  rw [show Pac.left ⟨⟨3000, 600, 0, 0, 60000, 24000⟩, 60000, 24000⟩ 100 = 850 from rfl]
  go_wp2_with fail
  refine (psend_to p b3 _ 239 1200 213 ⟨⟨3000, 600, 0, 0, 60000, 24000⟩, 60000, 24000⟩ _ hk.out hv.out rfl rfl).mono ?_
  rintro e w8 ⟨rfl, b4, hx, hk', ho⟩
  have hb4 : w.heap.size ≤ b4 := by have := hb.out.size; omega
  replace hb := Lib.hid (one_old hb.out ho hp hb.out.size)
  replace hv := Lib.hid (wf_eq (Pac.wf_send hv.out 239 1200) (show Pac.send _ 239 1200 = ⟨⟨3000, 600, 0, 0, 60000, 24000⟩, 60000, 24000⟩ from rfl))
  replace hk := Lib.hid hk'
  clear ho hk' hx
  go_wp2_with fail
  refine (psend_to p b4 _ 240 1200 0 ⟨⟨3000, 0, 0, 240, 60000, 24000⟩, 60000, 24000⟩ _ hk.out hv.out rfl rfl).mono ?_
  rintro e w9 ⟨rfl, b5, hx, hk', ho⟩
  have hb5 : w.heap.size ≤ b5 := by have := hb.out.size; omega
  replace hb := Lib.hid (one_old hb.out ho hp hb.out.size)
  replace hv := Lib.hid (wf_eq (Pac.wf_send hv.out 240 1200) (show Pac.send _ 240 1200 = ⟨⟨3000, 0, 0, 240, 60000, 24000⟩, 60000, 24000⟩ from rfl))
  replace hk := Lib.hid hk'
  clear ho hk' hx
  go_wp2_with fail
  refine (pcan_any p b5 ⟨⟨3000, 0, 0, 240, 60000, 24000⟩, 60000, 24000⟩ 240 1 _ hk.out hv.out).mono ?_
  rintro e w10 ⟨rfl, hlo⟩
  replace hk := Lib.hid (hk.out.kept hlo)
  replace hb := Lib.hid (old_later hb.out hlo hb.out.size)
  clear hlo
  rw [show (Pac.sendE ⟨⟨3000, 0, 0, 240, 60000, 24000⟩, 60000, 24000⟩ 240 1 == 0) = false from rfl]
  go_wp2_with fail
  refine (pleft_any p b5 ⟨⟨3000, 0, 0, 240, 60000, 24000⟩, 60000, 24000⟩ 10000 _ hk.out hv.out).mono ?_
  rintro e w11 ⟨rfl, hlo⟩
  replace hk := Lib.hid (hk.out.kept hlo)
  replace hb := Lib.hid (old_later hb.out hlo hb.out.size)
  clear hlo
  rw [show Pac.left ⟨⟨3000, 0, 0, 240, 60000, 24000⟩, 60000, 24000⟩ 10000 = 3000 from rfl]
  go_wp2_with fail
  refine (pset_to p b5 _ 200 1 1 210 ⟨⟨3000, 0, 0, 240, 60000, 24000⟩, 60000, 24000⟩ _ hk.out hv.out rfl rfl).mono ?_
  rintro e w12 ⟨rfl, hk', ho⟩
  replace hb := Lib.hid (only_old hb.out ho (by rintro k (rfl | rfl); exact hp; exact hb5) hb.out.size)
  replace hv := Lib.hid (wf_eq (Pac.wf_set hv.out 200 1 1) (show Pac.set _ 200 1 1 = ⟨⟨3000, 0, 0, 240, 60000, 24000⟩, 60000, 24000⟩ from rfl))
  replace hk := Lib.hid hk'
  clear ho hk'
  go_wp2_with fail
  refine (pset_to p b5 _ 300 0 1 2 ⟨⟨3000, 0, 0, 240, 60000, 24000⟩, 60000, 24000⟩ _ hk.out hv.out rfl rfl).mono ?_
  rintro e w13 ⟨rfl, hk', ho⟩
  replace hb := Lib.hid (only_old hb.out ho (by rintro k (rfl | rfl); exact hp; exact hb5) hb.out.size)
  replace hv := Lib.hid (wf_eq (Pac.wf_set hv.out 300 0 1) (show Pac.set _ 300 0 1 = ⟨⟨3000, 0, 0, 240, 60000, 24000⟩, 60000, 24000⟩ from rfl))
  replace hk := Lib.hid hk'
  clear ho hk'
  go_wp2_with fail
  refine (psend_to p b5 _ 300 0 2 ⟨⟨3000, 0, 0, 240, 60000, 24000⟩, 60000, 24000⟩ _ hk.out hv.out rfl rfl).mono ?_
  rintro e w14 ⟨rfl, b6, hx, hk', ho⟩
  have hb6 : w.heap.size ≤ b6 := by have := hb.out.size; omega
  replace hb := Lib.hid (one_old hb.out ho hp hb.out.size)
  replace hv := Lib.hid (wf_eq (Pac.wf_send hv.out 300 0) (show Pac.send _ 300 0 = ⟨⟨3000, 0, 0, 240, 60000, 24000⟩, 60000, 24000⟩ from rfl))
  replace hk := Lib.hid hk'
  clear ho hk' hx
  go_wp2_with fail
  refine (pset_to p b6 _ 300 2400 0 0 ⟨⟨3000, 150, 0, 300, 60000, 24000⟩, 12000, 1⟩ _ hk.out hv.out rfl rfl).mono ?_
  rintro e w15 ⟨rfl, hk', ho⟩
  replace hb := Lib.hid (only_old hb.out ho (by rintro k (rfl | rfl); exact hp; exact hb6) hb.out.size)
  replace hv := Lib.hid (wf_eq (Pac.wf_set hv.out 300 2400 0) (show Pac.set _ 300 2400 0 = ⟨⟨3000, 150, 0, 300, 60000, 24000⟩, 12000, 1⟩ from rfl))
  replace hk := Lib.hid hk'
  clear ho hk'
  go_wp2_with fail
  refine (prate_any p b6 ⟨⟨3000, 150, 0, 300, 60000, 24000⟩, 12000, 1⟩ _ hk.out).mono ?_
  rintro e w16 ⟨rfl, hlo⟩
  replace hk := Lib.hid (hk.out.kept hlo)
  replace hb := Lib.hid (old_later hb.out hlo hb.out.size)
  clear hlo
  skip
  go_wp2_with fail
  go_ret
  exact ⟨rfl, hb.out⟩
end Go.Proofs.Ytniiemmgcjkphaa
