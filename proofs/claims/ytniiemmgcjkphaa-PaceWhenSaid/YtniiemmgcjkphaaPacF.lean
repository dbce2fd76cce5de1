/-
  The laws of layer 14: how much is left (sounderlaw14.left), PaceOrder, PaceSteady.
-/
import Derived.Test.YtniiemmgcjkphaaPacD
import Derived.Test.YtniiemmgcjkphaaBktK
import Derived.Test.YtniiemmgcjkphaaPostB
namespace Go.Proofs.Ytniiemmgcjkphaa
open Go.RowKit Go.Sort

namespace Pac
def at0 (B R d : Int) : St := ⟨⟨B, R, 0, 0, 0, d⟩, 0, 1⟩
theorem wf_at0 {B R d : Int} (b0 : 1 ≤ B) (b1 : B ≤ 1073741824) (r0 : 0 ≤ R) (r1 : R ≤ B) : wf (at0 B R d) :=
  ⟨⟨b0, b1, r0, r1, by simp [at0], .inl rfl, by simp [at0], by simp [at0]⟩, show Bkt.may 0 1 = true by decide⟩
theorem may01 : Bkt.may 0 1 = true := by decide
theorem fill_at0 {B R d : Int} (r1 : R ≤ B) : Bkt.fillE ⟨B, R, 0, 0, 0, d⟩ 0 0 1 = 0 ∧ Bkt.fillS ⟨B, R, 0, 0, 0, d⟩ 0 0 1 = ⟨B, R, 0, 0, 0, 1⟩ := by
  have hE : Bkt.fillE ⟨B, R, 0, 0, 0, d⟩ 0 0 1 = 0 := rfl
  refine ⟨hE, ?_⟩
  rw [Bkt.fillS_of may01 (by simp) (by simp) (by omega)]
  have hk : Bkt.kept ⟨B, R, 0, 0, 0, d⟩ 0 1 = 0 := by unfold Bkt.kept; split <;> rfl
  have hp : Bkt.parts ⟨B, R, 0, 0, 0, d⟩ 0 0 1 = 0 := by unfold Bkt.parts; rw [hk]; rfl
  unfold Bkt.fill
  rw [hp]
  simp only [Int.zero_ediv, Int.zero_emod, Int.add_zero]
  split
  · have : B = R := by omega
    subst this; rfl
  · rfl
theorem send_at0 {B R d k : Int} (r1 : R ≤ B) (k0 : 1 ≤ k) (k1 : k ≤ 65535) (k2 : k ≤ R) : sendE (at0 B R d) 0 k = 0 ∧ send (at0 B R d) 0 k = at0 B (R - k) 1 := by
  obtain ⟨f1, f2⟩ := fill_at0 (d := d) r1
  have hn : (Sat.isN 0 && isSize k) = true := by rw [Bool.and_eq_true, isSize_iff]; exact ⟨by decide, k0, k1⟩
  have hc : comeE (at0 B R d) 0 = 0 := f1
  have ht : Bkt.takeE ⟨B, R, 0, 0, 0, 1⟩ k = 0 := by unfold Bkt.takeE; rw [if_neg (by omega), if_neg (by simp only; omega)]
  have hE : sendE (at0 B R d) 0 k = 0 := by
    unfold sendE
    rw [if_pos hn, if_pos hc]
    show (if Bkt.takeE (Bkt.fillS ⟨B, R, 0, 0, 0, d⟩ 0 0 1) k = 0 then (0 : Int) else 213) = 0
    rw [f2, if_pos ht]
  refine ⟨hE, ?_⟩
  unfold send
  rw [if_pos hE]
  show (⟨Bkt.takeS (Bkt.fillS ⟨B, R, 0, 0, 0, d⟩ 0 0 1) k, 0, 1⟩ : St) = at0 B (R - k) 1
  rw [f2]
  unfold Bkt.takeS
  rw [if_pos ht]
  rfl
def set0 (B cwnd smooth : Int) : St := ⟨⟨B, 0, 0, 0, 0, 1⟩, 5 * cwnd, den4 smooth⟩
theorem set_at0 {B d cwnd smooth : Int} (b0 : 1 ≤ B) (c0 : 1 ≤ cwnd) (c1 : cwnd ≤ 1099511627776) (s0 : 0 ≤ smooth) (s1 : smooth ≤ 9007199254740991) :
    setE (at0 B 0 d) 0 cwnd smooth = 0 ∧ set (at0 B 0 d) 0 cwnd smooth = set0 B cwnd smooth := by
  obtain ⟨f1, f2⟩ := fill_at0 (B := B) (R := 0) (d := d) (by omega)
  have ho : setOk 0 cwnd smooth = true := by rw [setOk_iff]; omega
  have hE : setE (at0 B 0 d) 0 cwnd smooth = 0 := by unfold setE; rw [if_pos ho]; exact f1
  refine ⟨hE, ?_⟩
  unfold set
  rw [if_pos hE]
  show (⟨Bkt.fillS ⟨B, 0, 0, 0, 0, d⟩ 0 0 1, 5 * cwnd, den4 smooth⟩ : St) = _
  rw [f2]
  rfl
/-- What an empty pacer of that rate has at t. -/
def leftAt (B cwnd smooth t : Int) : Int := min B (t * (5 * cwnd) / den4 smooth)
theorem den4_lo (smooth : Int) : 1 ≤ den4 smooth := by unfold den4; omega
theorem left_set0 {B cwnd smooth t : Int} (c0 : 1 ≤ cwnd) (c1 : cwnd ≤ 1099511627776) (t0 : 0 ≤ t) (t1 : t ≤ 9007199254740991) : left (set0 B cwnd smooth) t = leftAt B cwnd smooth t := by
  have hm := may_set (smooth := smooth) c0 c1
  have hc : comeE (set0 B cwnd smooth) t = 0 := Bkt.fillE_ok (s := ⟨B, 0, 0, 0, 0, 1⟩) (by simp) t0 t1 hm
  unfold left
  rw [if_pos hc]
  show (Bkt.fillS ⟨B, 0, 0, 0, 0, 1⟩ t (5 * cwnd) (den4 smooth)).n = _
  rw [Bkt.fillS_of hm (by simp) t0 t1, Bkt.fill_n]
  have hk : Bkt.kept ⟨B, 0, 0, 0, 0, 1⟩ (5 * cwnd) (den4 smooth) = 0 := by unfold Bkt.kept; split <;> rfl
  have hp : Bkt.parts ⟨B, 0, 0, 0, 0, 1⟩ t (5 * cwnd) (den4 smooth) = t * (5 * cwnd) := by unfold Bkt.parts; rw [hk]; simp
  rw [hp]
  unfold leftAt
  simp
theorem leftAt_lo {B cwnd smooth t : Int} (b0 : 1 ≤ B) (c0 : 1 ≤ cwnd) (t0 : 0 ≤ t) : 0 ≤ leftAt B cwnd smooth t := by
  have := Int.ediv_nonneg (Int.mul_nonneg t0 (show 0 ≤ 5 * cwnd by omega)) (show 0 ≤ den4 smooth by have := den4_lo smooth; omega)
  unfold leftAt; omega
theorem leftAt_hi (B cwnd smooth t : Int) : leftAt B cwnd smooth t ≤ B := by unfold leftAt; omega
theorem leftAt_0 {B cwnd smooth : Int} (b0 : 1 ≤ B) : leftAt B cwnd smooth 0 = 0 := by unfold leftAt; rw [Int.zero_mul, Int.zero_ediv]; omega
theorem leftAt_more {B c c' smooth t : Int} (h : c ≤ c') (t0 : 0 ≤ t) : leftAt B c smooth t ≤ leftAt B c' smooth t := by
  have h1 : t * (5 * c) ≤ t * (5 * c') := Int.mul_le_mul_of_nonneg_left (by omega) t0
  have h2 := Int.ediv_le_ediv (c := den4 smooth) (by have := den4_lo smooth; omega) h1
  unfold leftAt; omega
theorem leftAt_longer {B c s s' t : Int} (c0 : 1 ≤ c) (h : s ≤ s') (t0 : 0 ≤ t) : leftAt B c s' t ≤ leftAt B c s t := by
  have h2 := Sat.ediv_anti (Int.mul_nonneg t0 (show 0 ≤ 5 * c by omega)) (show 0 < den4 s by have := den4_lo s; omega) (show den4 s ≤ den4 s' by unfold den4; omega)
  unfold leftAt; omega
theorem leftAt_steady {cwnd smooth times : Int} (c0 : 1 ≤ cwnd) (c1 : cwnd ≤ 262144) (s0 : 1 ≤ smooth) (s1 : smooth ≤ 1099511627776) (_n0 : 1 ≤ times) (n1 : times ≤ 20) :
    leftAt 8388608 cwnd smooth (smooth * times) = 5 * cwnd * times / 4 := by
  have hd : den4 smooth = smooth * 4 := by unfold den4; omega
  have e : smooth * times * (5 * cwnd) = smooth * (5 * cwnd * times) := by rw [Int.mul_assoc, Int.mul_comm times]
  unfold leftAt
  rw [hd, e, Int.mul_ediv_mul_of_pos _ _ (by omega)]
  have h1 : 5 * cwnd * times ≤ 5 * cwnd * 20 := Int.mul_le_mul_of_nonneg_left n1 (by omega)
  omega
end Pac

set_option maxHeartbeats 4000000 in
set_option maxRecDepth 100000 in
theorem left_law (B cwnd smooth t : Int) (w : World) (b0 : 1 ≤ B) (b1 : B ≤ 1073741824) (c0 : 1 ≤ cwnd) (c1 : cwnd ≤ 1099511627776) (s0 : 0 ≤ smooth) (s1 : smooth ≤ 9007199254740991) (t0 : 0 ≤ t) (t1 : t ≤ 9007199254740991) :
    Calls Try.prog 47 #[.int .i64 B, .int .i64 cwnd, .int .i64 smooth, .int .i64 t] w fun e w' => e = .returned (.int .i64 (Pac.leftAt B cwnd smooth t)) ∧ Below w.heap.size w w' := by
  have hno : Bkt.newOk B 0 = true := by unfold Bkt.newOk; rw [Bool.and_eq_true, decide_eq_true_eq, Sat.isN_iff]; omega
  go_enter Try.func47, Try.ntmps47
  go_wp2_with fail
  refine (pnew_ok B 0 _ hno).mono ?_
  rintro e w1 ⟨p, b, hp, hb, rfl, hk, hbm⟩
  replace hk := Lib.hid hk
  replace hbm := Lib.hid hbm
  go_wp2_with fail
  go_loopw [11] (fun r wr => ∃ (R d : Int) (b : Nat), r = .int .i64 R ∧ 0 ≤ R ∧ R ≤ B ∧ w.heap.size ≤ b ∧ Pk wr p b (Pac.at0 B R d) ∧ Below w.heap.size w wr) (fun r _ => (intOf r).toNat)
  case atStart => exact ⟨B, 0, b, rfl, by omega, by omega, hb, hk.out, hbm.out⟩
  case round =>
    clear hb hk hbm
    obtain ⟨R, d, b, rfl, r0, r1, hb, hk, hbm⟩ := hrel
    replace hk := Lib.hid hk
    replace hbm := Lib.hid hbm
    have hv := Lib.hid (Pac.wf_at0 (d := d) b0 b1 r0 r1)
    by_cases hR : 0 < R
    · obtain ⟨k, hkk⟩ : ∃ k, min R 65535 = k := ⟨_, rfl⟩
      have k0 : 1 ≤ k := by omega
      have k1 : k ≤ 65535 := by omega
      have k2 : k ≤ R := by omega
      obtain ⟨e1, e2⟩ := Pac.send_at0 (d := d) r1 k0 k1 k2
      have hx := Lib.hid (psend_to p b _ 0 k 0 _ wr hk.out hv.out e1 e2)
      clear e1 e2
      go_wp2_with fail
      refine Calls.mono hx.out ?_
      rintro e w2 ⟨rfl, b2, hx2, hk2, ho⟩
      have hb2 : w.heap.size ≤ b2 := by have := hbm.out.size; omega
      replace hbm := Lib.hid (one_old hbm.out ho hp hbm.out.size)
      replace hk := Lib.hid hk2
      clear ho hk2 hx2
      go_wp2_with fail
      go_roundw
      case rel => exact ⟨R - k, 1, b2, rfl, by omega, by omega, hb2, hk.out, hbm.out⟩
      case measure => simp [intOf]; omega
    · have h0 : R = 0 := by omega
      subst h0
      obtain ⟨e1, e2⟩ := Pac.set_at0 (d := d) b0 c0 c1 s0 s1
      have hx := Lib.hid (pset_to p b _ 0 cwnd smooth 0 _ wr hk.out hv.out e1 e2)
      have hv2 := Lib.hid (wf_eq (Pac.wf_set hv.out 0 cwnd smooth) e2)
      have hz := Lib.hid (Pac.left_set0 (B := B) (smooth := smooth) c0 c1 (Int.le_refl 0) (by omega))
      have hy := Lib.hid (Pac.left_set0 (B := B) (smooth := smooth) c0 c1 t0 t1)
      have hl0 := Lib.hid (Pac.leftAt_0 (cwnd := cwnd) (smooth := smooth) b0)
      clear e1 e2
      go_wp2_with fail
      refine Calls.mono hx.out ?_
      rintro e w2 ⟨rfl, hk2, ho⟩
      replace hbm := Lib.hid (only_old hbm.out ho (by rintro i (rfl | rfl); exact hp; exact hb) hbm.out.size)
      replace hk := Lib.hid hk2
      clear ho hk2
      go_wp2_with fail
      refine (pleft_any p b _ 0 _ hk.out hv2.out).mono ?_
      rintro e w3 ⟨rfl, hlo⟩
      rw [hz.out, hl0.out]
      replace hk := Lib.hid (hk.out.kept hlo)
      replace hbm := Lib.hid (old_later hbm.out hlo hbm.out.size)
      clear hlo
      go_wp2_with fail
      refine (pleft_any p b _ t _ hk.out hv2.out).mono ?_
      rintro e w4 ⟨rfl, hlo⟩
      rw [hy.out]
      replace hbm := Lib.hid (old_later hbm.out hlo hbm.out.size)
      clear hlo
      go_wp2_with fail
      go_ret
      exact ⟨rfl, hbm.out⟩

set_option maxHeartbeats 4000000 in
set_option maxRecDepth 100000 in
theorem psteady_any (x y z : Int) (w : World) :
    Calls Try.prog 13 #[.int .i64 x, .int .i64 y, .int .i64 z] w fun e w' => e = .returned (.bool true) ∧ Below w.heap.size w w' := by
  have hA := Lib.hid (bring_same x 262144 (by omega) (by omega))
  have hB := Lib.hid (bring_same y 1099511627776 (by omega) (by omega))
  have hC := Lib.hid (bring_same z 20 (by omega) (by omega))
  have a0 := Int.emod_nonneg x (show (262144 : Int) ≠ 0 by omega)
  have a1 := Int.emod_lt_of_pos x (show (0 : Int) < 262144 by omega)
  have b0 := Int.emod_nonneg y (show (1099511627776 : Int) ≠ 0 by omega)
  have b1 := Int.emod_lt_of_pos y (show (0 : Int) < 1099511627776 by omega)
  have c0 := Int.emod_nonneg z (show (20 : Int) ≠ 0 by omega)
  have c1 := Int.emod_lt_of_pos z (show (0 : Int) < 20 by omega)
  generalize x % 262144 = a at *
  generalize y % 1099511627776 = b at *
  generalize z % 20 = c at *
  have m0 : 0 ≤ (1 + b) * (1 + c) := Int.mul_nonneg (by omega) (by omega)
  have m1 : (1 + b) * (1 + c) ≤ 1099511627776 * 20 := Int.mul_le_mul (by omega) (by omega) (by omega) (by omega)
  have m2 : 0 ≤ 5 * (1 + a) * (1 + c) := Int.mul_nonneg (by omega) (by omega)
  have m3 : 5 * (1 + a) * (1 + c) ≤ 5 * 262144 * 20 := Int.mul_le_mul (by omega) (by omega) (by omega) (by omega)
  have hl := fun w => left_law 8388608 (1 + a) (1 + b) ((1 + b) * (1 + c)) w (by omega) (by omega) (by omega) (by omega) (by omega) (by omega) m0 (by omega)
  rw [Pac.leftAt_steady (by omega) (by omega) (by omega) (by omega) (by omega) (by omega)] at hl
  replace hl := Lib.hid hl
  go_enter Try.func13, Try.ntmps13
  go_wp2_with fail
  refine (hA.out _).mono ?_
  rintro e w1 ⟨rfl, rfl⟩
  go_wp2_with fail
  refine (hB.out _).mono ?_
  rintro e w1 ⟨rfl, rfl⟩
  go_wp2_with fail
  refine (hC.out _).mono ?_
  rintro e w1 ⟨rfl, rfl⟩
  go_wp2_with fail
  refine (hl.out _).mono ?_
  rintro e w2 ⟨rfl, hb2⟩
  replace hb2 := Lib.hid hb2
  go_wp2_with fail
  refine (pworks_any _).mono ?_
  rintro e w3 ⟨rfl, hb3⟩
  replace hb2 := Lib.hid (later hb2.out hb3)
  clear hb3
  go_wp2_with fail
  go_ret
  exact ⟨rfl, hb2.out⟩

set_option maxHeartbeats 4000000 in
set_option maxRecDepth 100000 in
theorem porder_any (y x0 x1 x2 x3 z : Int) (w : World) :
    Calls Try.prog 12 #[.int .i64 y, .agg #[.int .i64 x0, .int .i64 x1, .int .i64 x2, .int .i64 x3], .int .i64 z] w fun e w' => e = .returned (.bool true) ∧ Below w.heap.size w w' := by
  have hA := Lib.hid (bring_same y 1073741824 (by omega) (by omega))
  have hB := Lib.hid (bring_same z 9007199254740992 (by omega) (by omega))
  have hC := Lib.hid (bring_same x0 1099511627776 (by omega) (by omega))
  have hD := Lib.hid (bring_same x1 9007199254740992 (by omega) (by omega))
  have a0 := Int.emod_nonneg y (show (1073741824 : Int) ≠ 0 by omega)
  have a1 := Int.emod_lt_of_pos y (show (0 : Int) < 1073741824 by omega)
  have b0 := Int.emod_nonneg z (show (9007199254740992 : Int) ≠ 0 by omega)
  have b1 := Int.emod_lt_of_pos z (show (0 : Int) < 9007199254740992 by omega)
  have c0 := Int.emod_nonneg x0 (show (1099511627776 : Int) ≠ 0 by omega)
  have c1 := Int.emod_lt_of_pos x0 (show (0 : Int) < 1099511627776 by omega)
  have d0 := Int.emod_nonneg x1 (show (9007199254740992 : Int) ≠ 0 by omega)
  have d1 := Int.emod_lt_of_pos x1 (show (0 : Int) < 9007199254740992 by omega)
  generalize y % 1073741824 = a at *
  generalize z % 9007199254740992 = t at *
  generalize x0 % 1099511627776 = c at *
  generalize x1 % 9007199254740992 = s at *
  have hE := Lib.hid (bring_same x2 (1099511627776 - (1 + c) + 1) (by omega) (by omega))
  have hF := Lib.hid (bring_same x3 (9007199254740992 - s) (by omega) (by omega))
  have e0 := Int.emod_nonneg x2 (show 1099511627776 - (1 + c) + 1 ≠ 0 by omega)
  have e1 := Int.emod_lt_of_pos x2 (show 0 < 1099511627776 - (1 + c) + 1 by omega)
  have f0 := Int.emod_nonneg x3 (show 9007199254740992 - s ≠ 0 by omega)
  have f1 := Int.emod_lt_of_pos x3 (show 0 < 9007199254740992 - s by omega)
  generalize x2 % (1099511627776 - (1 + c) + 1) = m at *
  generalize x3 % (9007199254740992 - s) = n at *
  have hl1 := fun w => left_law (1 + a) (1 + c) s t w (by omega) (by omega) (by omega) (by omega) (by omega) (by omega) (by omega) (by omega)
  have hl2 := fun w => left_law (1 + a) (1 + c + m) s t w (by omega) (by omega) (by omega) (by omega) (by omega) (by omega) (by omega) (by omega)
  have hl3 := fun w => left_law (1 + a) (1 + c) (s + n) t w (by omega) (by omega) (by omega) (by omega) (by omega) (by omega) (by omega) (by omega)
  have p1 := Pac.leftAt_lo (smooth := s) (t := t) (show 1 ≤ 1 + a by omega) (show 1 ≤ 1 + c by omega) (by omega)
  have p2 := Pac.leftAt_more (B := 1 + a) (smooth := s) (show 1 + c ≤ 1 + c + m by omega) (show 0 ≤ t by omega)
  have p3 := Pac.leftAt_lo (smooth := s + n) (t := t) (show 1 ≤ 1 + a by omega) (show 1 ≤ 1 + c by omega) (by omega)
  have p4 := Pac.leftAt_longer (B := 1 + a) (show 1 ≤ 1 + c by omega) (show s ≤ s + n by omega) (show 0 ≤ t by omega)
  have p5 := Pac.leftAt_hi (1 + a) (1 + c) s t
  generalize Pac.leftAt (1 + a) (1 + c) s t = l1 at *
  generalize Pac.leftAt (1 + a) (1 + c + m) s t = l2 at *
  generalize Pac.leftAt (1 + a) (1 + c) (s + n) t = l3 at *
  replace hl1 := Lib.hid hl1
  replace hl2 := Lib.hid hl2
  replace hl3 := Lib.hid hl3
  have hx := Blk.new w 91 #[.int .i64 x0, .int .i64 x1, .int .i64 x2, .int .i64 x3]
  have hb := laterA (Below.refl w.heap.size w) (.cells #[.int .i64 x0, .int .i64 x1, .int .i64 x2, .int .i64 x3] 91)
  have w1e : IntKind.i64.wrap (1 + c) = 1 + c := IntWalk.i64_in _ (by omega)
  have w2e : IntKind.i64.wrap (1099511627776 - (1 + c)) = 1099511627776 - (1 + c) := IntWalk.i64_in _ (by omega)
  have w3e : IntKind.i64.wrap (1099511627776 - (1 + c) + 1) = 1099511627776 - (1 + c) + 1 := IntWalk.i64_in _ (by omega)
  have w4e : IntKind.i64.wrap (1 + c + m) = 1 + c + m := IntWalk.i64_in _ (by omega)
  have w5e : IntKind.i64.wrap (9007199254740992 - s) = 9007199254740992 - s := IntWalk.i64_in _ (by omega)
  have w6e : IntKind.i64.wrap (s + n) = s + n := IntWalk.i64_in _ (by omega)
  go_enter Try.func12, Try.ntmps12
  go_wp2_with fail
  generalize w.alloc _ = W at *
  have v0 := hx.cell 0
  have v1 := hx.cell 1
  have v2 := hx.cell 2
  have v3 := hx.cell 3
  simp at v0 v1 v2 v3
  replace hx := Lib.hid hx
  replace hb := Lib.hid hb
  refine (hA.out _).mono ?_
  rintro e w1 ⟨rfl, rfl⟩
  go_wp2_with fail
  refine (hB.out _).mono ?_
  rintro e w1 ⟨rfl, rfl⟩
  go_wp2_with fail
  go_region_held3 (fun w' => w'.cell? ⟨w.heap.size, 0, none⟩ = some (.int .i64 x0) ∧ w'.cell? ⟨w.heap.size, 1, none⟩ = some (.int .i64 x1)) (first | exact ⟨v0, v1⟩ | go_keep) (first | (go_at_call 16; (with_reducible refine (hC.out _).mono ?_); rintro e w1 ⟨rfl, rfl⟩) | (go_at_call 16; (with_reducible refine (hD.out _).mono ?_); rintro e w1 ⟨rfl, rfl⟩))
  go_wp2_with fail
  have hb1 := Lib.hid (laterD hb.out)
  clear v0 v1
  go_region_held3 (fun w' => w'.cell? ⟨w.heap.size, 2, none⟩ = some (.int .i64 x2) ∧ w'.cell? ⟨w.heap.size, 3, none⟩ = some (.int .i64 x3)) (first | exact ⟨v2, v3⟩ | go_keep) (first | (go_at_call 16; (with_reducible refine (hE.out _).mono ?_); rintro e w1 ⟨rfl, rfl⟩) | (go_at_call 16; (with_reducible refine (hF.out _).mono ?_); rintro e w1 ⟨rfl, rfl⟩))
  clear v2 v3
  have hb2 := Lib.hid (laterD hb1.out)
  generalize W.drew.drew = W2 at *
  go_wp2_with fail
  refine (hl1.out _).mono ?_
  rintro e w1 ⟨rfl, hbm⟩
  replace hb2 := Lib.hid (later hb2.out hbm)
  clear hbm
  go_wp2_with fail
  refine (hl2.out _).mono ?_
  rintro e w2 ⟨rfl, hbm⟩
  replace hb2 := Lib.hid (later hb2.out hbm)
  clear hbm
  go_wp2_with fail
  refine (hl3.out _).mono ?_
  rintro e w3 ⟨rfl, hbm⟩
  replace hb2 := Lib.hid (later hb2.out hbm)
  clear hbm
  go_wp2_with fail
  refine (pworks_any _).mono ?_
  rintro e w4 ⟨rfl, hbm⟩
  replace hb2 := Lib.hid (later hb2.out hbm)
  clear hbm
  go_wp2_with fail
  go_ret
  exact ⟨rfl, hb2.out⟩
end Go.Proofs.Ytniiemmgcjkphaa
