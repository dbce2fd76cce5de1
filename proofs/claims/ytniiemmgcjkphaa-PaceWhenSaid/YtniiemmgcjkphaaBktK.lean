/-
  The laws of layer 13: BucketParts.
-/
import Derived.Test.YtniiemmgcjkphaaBktI
import Derived.Test.YtniiemmgcjkphaaRead
import Derived.Deep.RegionHeld3
namespace Go.Proofs.Ytniiemmgcjkphaa
open Go.RowKit Go.Sort

theorem Rd.at1 {w : World} {A : Option Addr} {n : Nat} {f : Nat → Nat → Int} (h : Rd w A 1 n f) {k : Nat} (hk : k < n) :
    ∃ b off, A = some ⟨b, off, none⟩ ∧ ∀ wx, Below w.heap.size w wx → wx.cell? ⟨b, off + k, none⟩ = some (.int .i64 (f k 0)) := by
  obtain ⟨b, off, rfl, hb, hc⟩ := h (by omega)
  refine ⟨b, off, rfl, fun wx hx => (hx.cell (p := ⟨b, _, none⟩) hb).trans ?_⟩
  have := hc k hk 0 (by omega)
  rwa [show off + (k * 1 + 0) = off + k by omega] at this

namespace Bkt
/-- How the first bucket stands after j fillings. -/
def PartsAt (S s : St) (T num den : Int) (j : Nat) : Prop := s.t = T ∧ (j = 0 ∧ s = S ∧ T = 5 ∨ 0 < j ∧ s = fill S T num den)
theorem parts_next {S s : St} {T T' num den : Int} {j : Nat} (h : PartsAt S s T num den j) (hT : T ≤ T') (hn : 0 ≤ num) (hd : 1 ≤ den) : fill s T' num den = fill S T' num den := by
  obtain ⟨_, ⟨_, rfl, _⟩ | ⟨_, rfl⟩⟩ := h
  · rfl
  · exact fill_fill hT hn hd
theorem fill_now {S : St} (h : wf S) (hr : S.r = 0) (num den : Int) : (fill S S.t num den).n = S.n ∧ (fill S S.t num den).r = S.r := by
  have hk : kept S num den = 0 := by unfold kept; split <;> first | exact hr | rfl
  have hp : parts S S.t num den = 0 := by unfold parts; rw [hk, Int.sub_self, Int.zero_mul]; rfl
  have h1 := h.n1
  refine ⟨by rw [fill_n, hp, Int.zero_ediv]; omega, ?_⟩
  unfold fill
  rw [hp, Int.zero_ediv, Int.zero_emod, hr]
  split <;> rfl
theorem parts_end {S s : St} {T num den : Int} {j : Nat} (h : PartsAt S s T num den j) (hw : wf S) (hr : S.r = 0) (ht : S.t = 5) : (fill S T num den).n = s.n ∧ (fill S T num den).r = s.r := by
  obtain ⟨_, ⟨_, rfl, rfl⟩ | ⟨_, rfl⟩⟩ := h
  · have := fill_now hw hr num den; rw [ht] at this; exact this
  · exact ⟨rfl, rfl⟩
theorem fillE_ok {s : St} {t num den : Int} (t0 : 0 ≤ s.t) (ht : s.t ≤ t) (t1 : t ≤ 9007199254740991) (hm : may num den = true) : fillE s t num den = 0 := by
  unfold fillE
  rw [hm, (Sat.isN_iff t).2 ⟨by omega, t1⟩]
  rw [if_pos (by rfl), if_neg (by omega)]
end Bkt

set_option maxHeartbeats 4000000 in
set_option maxRecDepth 100000 in
theorem bparts_any (x0 x1 y0 y1 : Int) (A : Option Addr) (n c : Nat) (f : Nat → Nat → Int) (w : World) (hn : n ≤ 9223372036854775807) (hr : Rd w A 1 n f) :
    Calls Try.prog 3 #[.agg #[.int .i64 x0, .int .i64 x1], .agg #[.int .i64 y0, .int .i64 y1], .slice A n c] w fun e w' => e = .returned (.bool true) ∧ Below w.heap.size w w' := by
  have HR := Lib.hid hr
  clear hr
  have hX0 := Int.emod_nonneg x0 (show (16777216 : Int) ≠ 0 by omega)
  have hX1 := Int.emod_lt_of_pos x0 (show (0 : Int) < 16777216 by omega)
  have hY0 := Int.emod_nonneg x1 (show (1073741824 : Int) ≠ 0 by omega)
  have hY1 := Int.emod_lt_of_pos x1 (show (0 : Int) < 1073741824 by omega)
  have hT := Lib.hid (rate_any x0 x1)
  generalize x0 % 16777216 = num at *
  obtain ⟨den, hden⟩ : ∃ den, 1 + x1 % 1073741824 = den := ⟨_, rfl⟩
  rw [hden] at hT
  have hd0 : 1 ≤ den := by omega
  have hd1 : den ≤ 1073741824 := by omega
  clear hden hY0 hY1
  have hN := Lib.hid (bring_same y0 1048576 (by omega) (by omega))
  have hN0 := Int.emod_nonneg y0 (show (1048576 : Int) ≠ 0 by omega)
  have hN1 := Int.emod_lt_of_pos y0 (show (0 : Int) < 1048576 by omega)
  generalize y0 % 1048576 = Z at *
  have hK := Lib.hid (bring_same y1 (1 + Z + 1) (by omega) (by omega))
  have hK0 := Int.emod_nonneg y1 (show 1 + Z + 1 ≠ 0 by omega)
  have hK1 := Int.emod_lt_of_pos y1 (show 0 < 1 + Z + 1 by omega)
  generalize y1 % (1 + Z + 1) = k at *
  have hno : Bkt.newOk (1 + Z) 5 = true := by
    unfold Bkt.newOk
    rw [Bool.and_eq_true, decide_eq_true_eq, Sat.isN_iff]; omega
  obtain ⟨S, hS⟩ : ∃ S : Bkt.St, S = ⟨1 + Z, 1 + Z - k, 0, 5, 0, 0⟩ := ⟨_, rfl⟩
  have hke : Bkt.takeE (Bkt.start (1 + Z) 5) k = 0 := by
    unfold Bkt.takeE Bkt.start
    rw [if_neg (by omega), if_neg (by simp only; omega)]
  have hks : Bkt.takeS (Bkt.start (1 + Z) 5) k = S := by
    unfold Bkt.takeS
    rw [if_pos hke, hS]; rfl
  have hvS : Bkt.wf S := hks ▸ Bkt.wf_takeS (Bkt.wf_start hno) k
  have hSn : S.n = 1 + Z - k := by rw [hS]
  have hSB : S.B = 1 + Z := by rw [hS]
  have hSt : S.t = 5 := by rw [hS]
  have hSr : S.r = 0 := by rw [hS]
  clear hS
  replace hSn := Lib.hid hSn
  replace hSB := Lib.hid hSB
  replace hSt := Lib.hid hSt
  replace hSr := Lib.hid hSr
  replace hvS := Lib.hid hvS
  replace hks := Lib.hid hks
  replace hke := Lib.hid hke
  go_enter Try.func3, Try.ntmps3
  go_wp2_with fail
  have hx := (Blk.new w 22 #[.int .i64 x0, .int .i64 x1]).alloc (.cells #[.int .i64 y0, .int .i64 y1] 22)
  have hy := Blk.new2 w (.cells #[.int .i64 x0, .int .i64 x1] 22) 22 #[.int .i64 y0, .int .i64 y1]
  have hb := laterA (laterA (Below.refl w.heap.size w) (.cells #[.int .i64 x0, .int .i64 x1] 22)) (.cells #[.int .i64 y0, .int .i64 y1] 22)
  generalize (w.alloc _).alloc _ = W at *
  have c0 := hx.cell 0
  have c1 := hx.cell 1
  simp at c0 c1
  have d0 := hy.cell 0
  have d1 := hy.cell 1
  simp at d0 d1
  replace hx := Lib.hid hx
  replace hy := Lib.hid hy
  replace hb := Lib.hid hb
  refine (hT.out _).mono ?_
  rintro e w1 ⟨rfl, hbm⟩
  have hWs : w.heap.size < W.heap.size := by have := hy.out.lt; omega
  have hDs : w.heap.size ≤ W.heap.size := by omega
  have hx1 := Lib.hid (hx.out.later hbm)
  have hy1 := Lib.hid (hy.out.later hbm)
  have hb1 := Lib.hid (hb.out.trans (hbm.mono (by omega)))
  clear hbm c0 c1 d0 d1 hx hy hb
  have hy2 := hy1.out.alloc (.cells #[.int .i64 num, .int .i64 den] 25)
  have hr2 := Blk.new w1 25 #[.int .i64 num, .int .i64 den]
  have hb2 := hb1.out.alloc hb1.out.size (.cells #[.int .i64 num, .int .i64 den] 25)
  have hs1 : w.heap.size ≤ w1.heap.size := hb1.out.size
  have hs2 := hr2.lt
  have d0 := hy2.cell 0
  have d1 := hy2.cell 1
  simp at d0 d1
  go_wp2_with fail
  generalize w1.alloc _ = w2 at *
  generalize w1.heap.size = R at *
  replace hy2 := Lib.hid hy2
  replace hr2 := Lib.hid hr2
  replace hb2 := Lib.hid hb2
  refine (hN.out _).mono ?_
  rintro e w3 ⟨rfl, rfl⟩
  go_wp2_with fail
  refine (bnew_ok (1 + Z) 5 _ hno).mono ?_
  rintro e w3 ⟨rfl, hl3, hbm⟩
  replace hl3 := Lib.hid hl3
  have hy3 := Lib.hid (hy2.out.later hbm)
  have hr3 := Lib.hid (hr2.out.later hbm)
  have hb3 := Lib.hid (old_later hb2.out hbm hb2.out.size)
  have n1 : w2.heap.size ≠ R := by have := hr2.out.lt; omega
  have hL : w.heap.size ≤ w2.heap.size := hb2.out.size
  clear hbm d0 d1 hy2 hr2 hb2
  generalize w2.heap.size = L at *
  go_wp2_with fail
  refine (bnew_ok (1 + Z) 5 _ hno).mono ?_
  rintro e w4 ⟨rfl, hm4, hbm⟩
  replace hm4 := Lib.hid hm4
  have hl4 := Lib.hid (hl3.out.kept hbm)
  have hy4 := Lib.hid (hy3.out.later hbm)
  have hr4 := Lib.hid (hr3.out.later hbm)
  have hb4 := Lib.hid (old_later hb3.out hbm hb3.out.size)
  have n2 : w3.heap.size ≠ R := by have := hr3.out.lt; omega
  have n3 : w3.heap.size ≠ L := by have := Blk.lt hl3.out; omega
  have hM : w.heap.size ≤ w3.heap.size := hb3.out.size
  clear hbm hy3 hr3 hb3 hl3
  generalize w3.heap.size = M at *
  have d0 := hy4.out.cell 0
  have d1 := hy4.out.cell 1
  simp at d0 d1
  go_wp2_with fail
  refine (hK.out _).mono ?_
  rintro e w5 ⟨rfl, rfl⟩
  go_wp2_with fail
  refine (take_to L (Bkt.start (1 + Z) 5) k 0 S _ hl4.out (Bkt.wf_start hno) hke.out hks.out).mono ?_
  rintro e w6 ⟨rfl, hl6, ho⟩
  replace hl6 := Lib.hid hl6
  have hm6 := Lib.hid (hm4.out.but ho n3)
  have hr6 := Lib.hid (hr4.out.one ho (Ne.symm n1))
  have hb6 := Lib.hid (one_old hb4.out ho hL hb4.out.size)
  clear ho hl4 hm4 hr4 hb4 d0 d1 hy4
  go_wp2_with fail
  refine (take_to M (Bkt.start (1 + Z) 5) k 0 S _ hm6.out (Bkt.wf_start hno) hke.out hks.out).mono ?_
  rintro e w7 ⟨rfl, hm7, ho⟩
  replace hm7 := Lib.hid hm7
  have hl7 := Lib.hid (hl6.out.but ho (Ne.symm n3))
  have hr7 := Lib.hid (hr6.out.one ho (Ne.symm n2))
  have hb7 := Lib.hid (one_old hb6.out ho hM hb6.out.size)
  clear ho hl6 hm6 hr6 hb6
  go_wp2_with fail
  go_loopw [14, 15] (fun a i wr => ∃ (j : Nat) (T : Int) (s : Bkt.St), a = .int .i64 T ∧ i = .int .i64 j ∧ j ≤ n ∧ j ≤ 30 ∧ 5 ≤ T ∧ T ≤ 5 + 17179869184 * (j : Int) ∧ Bkt.PartsAt S s T num den j ∧ Bkt.wf s ∧ Bk wr L s ∧ Bk wr M S ∧ Blk wr R 25 #[.int .i64 num, .int .i64 den] ∧ Below w.heap.size w wr) (fun _ i _ => 30 - (intOf i).toNat)
  case atStart => exact ⟨0, 5, S, rfl, rfl, by omega, by omega, by omega, by omega, ⟨hSt.out, .inl ⟨rfl, rfl, rfl⟩⟩, hvS.out, hl7.out, hm7.out, hr7.out, hb7.out⟩
  case round =>
    obtain ⟨j, T, s, rfl, rfl, hj, hj1, hT0, hT1, hP, hv, hl, hm, hr, hb⟩ := hrel
    have hsT := hP.1
    replace hP := Lib.hid hP
    replace hv := Lib.hid hv
    replace hl := Lib.hid hl
    replace hm := Lib.hid hm
    replace hr := Lib.hid hr
    replace hb := Lib.hid hb
    replace hsT := Lib.hid hsT
    clear hl7 hm7 hr7 hb7
    by_cases hlt : j < n ∧ j < 30
    · obtain ⟨hlt, h30⟩ := hlt
      obtain ⟨b, off, rfl, hc⟩ := HR.out.at1 hlt
      have hx := hc _ hb.out
      clear hc
      have hB := Lib.hid (bring_same (f j 0) 17179869184 (by omega) (by omega))
      have hm0 := Int.emod_nonneg (f j 0) (show (17179869184 : Int) ≠ 0 by omega)
      have hm1 := Int.emod_lt_of_pos (f j 0) (show (0 : Int) < 17179869184 by omega)
      generalize f j 0 = x at *
      generalize x % 17179869184 = m at *
      have hmay : Bkt.may num den = true := by rw [Bkt.may_iff]; omega
      have hst := hsT.out
      have hfe := Bkt.fillE_ok (s := s) (t := T + m) (by omega) (by omega) (by omega) hmay
      have hfs := Bkt.fillS_of (s := s) (t := T + m) hmay (by omega) (by omega) (by omega)
      rw [Bkt.parts_next hP.out (show T ≤ T + m by omega) hX0 hd0] at hfs
      have hv2 := Bkt.wf_fillS hv.out (T + m) num den
      rw [hfs] at hv2
      have hSt' := hSt.out
      have hSB' := hSB.out
      have hSn' := hSn.out
      have q1 := Bkt.fill_lo hvS.out (t := T + m) (num := num) (den := den) (by omega) hX0 hd0
      have q2 := hv2.n1
      rw [Bkt.fill_B, hSB'] at q2
      rw [hSn'] at q1
      have q3 := hv2.r0
      have q4 : (Bkt.fill S (T + m) num den).r < den := by have := hv2.r1; rw [(Bkt.fill_rate S (T + m) num den).2] at this; omega
      have q5 : (Bkt.fill S (T + m) num den).t = T + m := Bkt.fill_t _ _ _ _
      obtain ⟨S2, hS2⟩ : ∃ S2, Bkt.fill S (T + m) num den = S2 := ⟨_, rfl⟩
      rw [hS2] at hfs hv2 q1 q2 q3 q4 q5
      clear hst hSt' hSB' hSn' hmay
      replace hfe := Lib.hid hfe
      replace hfs := Lib.hid hfs
      replace hv2 := Lib.hid hv2
      replace hS2 := Lib.hid hS2
      replace q5 := Lib.hid q5
      have ws : IntKind.i64.wrap (1 + Z - k) = 1 + Z - k := IntWalk.i64_in _ (by omega)
      have g1 : decide (1 + Z < S2.n) = false := by simp; omega
      have g2 : decide (S2.n < 1 + Z - k) = false := by simp; omega
      have g3 : decide (S2.r < 0) = false := by simp; omega
      have g4 : decide (den ≤ S2.r) = false := by simp; omega
      clear q1 q2 q3 q4
      have r0 := hr.out.cell 0
      have r1 := hr.out.cell 1
      simp at r0 r1
      have hld := Lib.hid hl.out.drew
      go_wp2_with fail
      refine (hB.out _).mono ?_
      rintro e w8 ⟨rfl, rfl⟩
      go_wp2_with fail
      go_region_held3 (fun w' => w'.cell? ⟨R, 0, none⟩ = some (.int .i64 num) ∧ w'.cell? ⟨R, 1, none⟩ = some (.int .i64 den)) (first | exact ⟨r0, r1⟩ | exact ⟨d0, d1⟩) (first | (go_at_call 19; (with_reducible refine (fill_to L s (T + m) num den 0 S2 _ hld.out hv.out hfe.out hfs.out).mono ?_); rintro e w8 ⟨rfl, hl8, ho⟩; have ho := one_undrew ho; replace hl8 := Lib.hid hl8; have hm8 := Lib.hid (hm.out.but ho n3); have hr8 := hr.out.one ho (Ne.symm n1); have d0 := hr8.cell 0; have d1 := hr8.cell 1; simp at d0 d1; replace hr8 := Lib.hid hr8; have hb8 := Lib.hid (one_old hb.out ho hL hb.out.size); clear ho) | (go_at_call 20; (with_reducible refine (tokens_any L S2 _ hl8.out hv2.out).mono ?_); rintro e w9 ⟨rfl, rfl⟩) | (go_at_call 21; (with_reducible refine (rest_any L S2 _ hl8.out hv2.out).mono ?_); rintro e w9 ⟨rfl, rfl⟩))
      go_wp2_with fail
      go_roundw
      case rel => exact ⟨j + 1, T + m, S2, rfl, by go_num, by omega, by omega, by omega, by omega, ⟨q5.out, .inr ⟨by omega, hS2.out.symm⟩⟩, hv2.out, hl8.out, hm8.out, hr8.out, hb8.out⟩
      case measure => simp [intOf]; omega
    · have hcase : ¬ j < n ∨ (j < n ∧ ¬ j < 30) := by omega
      clear hlt
      have hmay : Bkt.may num den = true := by rw [Bkt.may_iff]; omega
      have hSt' := hSt.out
      have hfe := Bkt.fillE_ok (s := S) (t := T) (by omega) (by omega) (by omega) hmay
      have hfs := Bkt.fillS_of (s := S) (t := T) hmay (by omega) (by omega) (by omega)
      obtain ⟨p1, p2⟩ := Bkt.parts_end hP.out hvS.out hSr.out hSt.out
      have hv2 := Bkt.wf_fillS hvS.out T num den
      rw [hfs] at hv2
      generalize Bkt.fill S T num den = S2 at *
      have tk := tokens_any M S2
      have rs := rest_any M S2
      rw [p1] at tk
      rw [p2] at rs
      clear hSt' hmay p1 p2
      replace hfe := Lib.hid hfe
      replace hfs := Lib.hid hfs
      replace hv2 := Lib.hid hv2
      replace tk := Lib.hid tk
      replace rs := Lib.hid rs
      have r0 := hr.out.cell 0
      have r1 := hr.out.cell 1
      simp at r0 r1
      rcases hcase with g1 | ⟨g1, g2⟩
      all_goals
        go_wp2_with fail
        refine (fill_to M S T num den 0 S2 _ hm.out hvS.out hfe.out hfs.out).mono ?_
        rintro e w8 ⟨rfl, hm8, ho⟩
        replace hm8 := Lib.hid hm8
        have hl8 := Lib.hid (hl.out.but ho (Ne.symm n3))
        have hb8 := Lib.hid (one_old hb.out ho hM hb.out.size)
        clear ho
        go_wp2_with fail
        refine (tokens_any L s _ hl8.out hv.out).mono ?_
        rintro e w9 ⟨rfl, rfl⟩
        go_wp2_with fail
        refine (tk.out _ hm8.out hv2.out).mono ?_
        rintro e w9 ⟨rfl, rfl⟩
        go_wp2_with fail
        refine (rest_any L s _ hl8.out hv.out).mono ?_
        rintro e w9 ⟨rfl, rfl⟩
        go_wp2_with fail
        refine (rs.out _ hm8.out hv2.out).mono ?_
        rintro e w9 ⟨rfl, rfl⟩
        go_wp2_with fail
        refine (bworks_any _).mono ?_
        rintro e w9 ⟨rfl, hbm⟩
        have hb9 := Lib.hid (old_later hb8.out hbm hb8.out.size)
        clear hbm
        go_wp2_with fail
        go_ret
        exact ⟨rfl, hb9.out⟩
end Go.Proofs.Ytniiemmgcjkphaa
