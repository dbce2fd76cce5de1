/-
  Layer 5: the statements' made, FrameCut, FrameBack, FrameHas.
-/
import Derived.Test.YtpagdcobhbkabaaDoorFrR
import Derived.Test.YtpagdcobhbkabaaDoorOctN
import Derived.Test.YtpagdcobhbkabaaDoorBring
namespace Go.Proofs.YtpagdcobhbkabaaDoor
open Go.RowKit Go.Sort Go.Shelf Go.Deep Go.WideShapes

namespace Frm
def mrs (f : Nat → Nat → Int) (n : Nat) : Nat → Nat → Int → List (Int × Int)
  | 0, _, _ => []
  | k + 1, i, hi => if 0 ≤ hi ∧ (i = 0 ∨ i < n) then
      (hi - (if i < n then f i 0 else 0) % min (hi + 1) 1099511627776, hi) :: mrs f n k (i + 1) (hi - (if i < n then f i 0 else 0) % min (hi + 1) 1099511627776 - 2 - (if i < n then f i 1 else 0) % 1099511627776) else []
def mk (hi dl : Int) (f : Nat → Nat → Int) (n : Nat) (g : Nat → Nat → Int) (m : Nat) : Ak :=
  ⟨dl % 9007199254740992, mrs f n 256 0 (hi % 9007199254740992), decide (3 ≤ m), if 3 ≤ m then g 0 0 % 9007199254740992 else 0, if 3 ≤ m then g 1 0 % 9007199254740992 else 0, if 3 ≤ m then g 2 0 % 9007199254740992 else 0⟩
theorem mrs_head (f : Nat → Nat → Int) (n k i : Nat) (hi : Int) : ∀ p, (mrs f n k i hi).head? = some p → p.2 = hi := by
  intro p hp
  cases k with
  | zero => simp [mrs] at hp
  | succ k =>
    unfold mrs at hp
    split at hp
    · simp at hp
      rw [← hp]
    · simp at hp
theorem mrs_ok (f : Nat → Nat → Int) (n : Nat) : ∀ (k i : Nat) (hi : Int), hi ≤ 9007199254740991 → (mrs f n k i hi).all okR = true ∧ gapsOk (mrs f n k i hi) = true ∧ (mrs f n k i hi).length ≤ k
  | 0, _, _, _ => ⟨rfl, rfl, Nat.le_refl _⟩
  | k + 1, i, hi, hh => by
    unfold mrs
    by_cases hc : 0 ≤ hi ∧ (i = 0 ∨ i < n)
    · rw [if_pos hc]
      have hm : 0 < min (hi + 1) 1099511627776 := by omega
      have h1 := Int.emod_nonneg (if i < n then f i 0 else 0) (show min (hi + 1) 1099511627776 ≠ 0 by omega)
      have h2 := Int.emod_lt_of_pos (if i < n then f i 0 else 0) hm
      have h3 := Int.emod_nonneg (if i < n then f i 1 else 0) (show (1099511627776 : Int) ≠ 0 by omega)
      generalize (if i < n then f i 0 else 0) % min (hi + 1) 1099511627776 = s at *
      generalize (if i < n then f i 1 else 0) % 1099511627776 = t at *
      obtain ⟨r1, r2, r3⟩ := mrs_ok f n k (i + 1) (hi - s - 2 - t) (by omega)
      have hh' := mrs_head f n k (i + 1) (hi - s - 2 - t)
      generalize mrs f n k (i + 1) (hi - s - 2 - t) = T at *
      refine ⟨?_, ?_, by simpa using r3⟩
      · rw [List.all_cons, r1, (okR_iff _).2 (by simp only; omega)]; rfl
      · cases T with
        | nil => rfl
        | cons q T =>
          have := hh' q rfl
          simp only [gapsOk, r2, Bool.and_true, decide_eq_true_eq]
          omega
    · rw [if_neg hc]
      exact ⟨rfl, rfl, by simp⟩
theorem mk_ok (hi dl : Int) (f : Nat → Nat → Int) (n : Nat) (g : Nat → Nat → Int) (m : Nat) : chk (mk hi dl f n g m) = true := by
  have h1 := Int.emod_nonneg hi (show (9007199254740992 : Int) ≠ 0 by omega)
  have h2 := Int.emod_lt_of_pos hi (show (0 : Int) < 9007199254740992 by omega)
  have hd : ∀ x : Int, isN (x % 9007199254740992) = true := fun x => (isN_iff _).2 (by
    have := Int.emod_nonneg x (show (9007199254740992 : Int) ≠ 0 by omega)
    have := Int.emod_lt_of_pos x (show (0 : Int) < 9007199254740992 by omega)
    omega)
  obtain ⟨r1, r2, r3⟩ := mrs_ok f n 256 0 (hi % 9007199254740992) (by omega)
  have r4 : 1 ≤ (mrs f n 256 0 (hi % 9007199254740992)).length := by
    rw [show mrs f n 256 0 (hi % 9007199254740992) = _ from by unfold mrs; rw [if_pos ⟨h1, .inl rfl⟩]]
    simp
  unfold chk mk
  simp only
  rw [r1, r2, decide_eq_true r3, decide_eq_true r4, hd]
  have ho : ∀ x : Int, okE (decide (3 ≤ m)) (if 3 ≤ m then x % 9007199254740992 else 0) = true := fun x => by
    unfold okE
    by_cases hm : 3 ≤ m
    · rw [if_pos hm, hd, decide_eq_true hm]; rfl
    · rw [if_neg hm]; simp [isN]
  rw [ho, ho, ho]
  rfl
end Frm
/-- While made goes on: the ranges so far; how it ends is known. -/
structure MI (W0 : World) (Ba : Nat) (dl : Int) (f : Nat → Nat → Int) (n : Nat) (h0 : Int) (k : Nat) (h : Int) (w : World) : Prop where
  bx : ∃ v acc, Blk w Ba 25 #[.int .i64 dl, v, .bool false, .int .i64 0, .int .i64 0, .int .i64 0] ∧ OwnS encR 36 2 w (Ba + 1) v acc ∧ acc.length = k ∧ acc ++ Frm.mrs f n (256 - k) k h = Frm.mrs f n 256 0 h0
  low : Below W0.heap.size W0 w
  sz : Ba < w.heap.size
theorem mrs_step (f : Nat → Nat → Int) (n k : Nat) (h : Int) (hk : k < 256) (hc : 0 ≤ h ∧ (k = 0 ∨ k < n)) : Frm.mrs f n (256 - k) k h =
    (h - (if k < n then f k 0 else 0) % min (h + 1) 1099511627776, h) :: Frm.mrs f n (256 - (k + 1)) (k + 1) (h - (if k < n then f k 0 else 0) % min (h + 1) 1099511627776 - 2 - (if k < n then f k 1 else 0) % 1099511627776) := by
  rw [show 256 - k = (256 - (k + 1)) + 1 by omega]
  conv => lhs; unfold Frm.mrs
  rw [if_pos hc]
theorem mrs_end (f : Nat → Nat → Int) (n k : Nat) (h : Int) (hc : ¬ (k < 256 ∧ 0 ≤ h ∧ (k = 0 ∨ k < n))) : Frm.mrs f n (256 - k) k h = [] := by
  by_cases hk : k < 256
  · rw [show 256 - k = (256 - (k + 1)) + 1 by omega]
    unfold Frm.mrs
    rw [if_neg (fun h => hc ⟨hk, h⟩)]
  · rw [show 256 - k = 0 by omega]
    rfl
/-- What made answers. -/
def MadePost (w0 : World) (a : Frm.Ak) (e : Ending) (w' : World) : Prop := ∃ A n c, e = .returned (av a A n c) ∧ Rg w' A n c a.rs ∧ Below w0.heap.size w0 w'
theorem made_end {w wr W : World} {d0 e0 e1 e2 : Int} {acc : List (Int × Int)} {b : Bool} {Y : Frm.Ak} {A4 : Option Addr} {c4 : Nat} {u0 u1 u2 u3 u4 u5 : Value} {a : Act} {k : Nat} (hk : acc.length = k) (hY : (⟨d0, acc, b, e0, e1, e2⟩ : Frm.Ak) = Y)
    (hR : Blk W (w.heap.size + 1) 25 #[u0, u1, u2, u3, u4, u5]) (ho : Only (fun k => w.heap.size ≤ k ∧ k < w.heap.size + 3) wr W) (hrg : Rg wr A4 acc.length c4 acc) (hfr : ∀ x, A4 = some x → w.heap.size + 2 + 1 ≤ x.block) (hlow : Below w.heap.size w wr)
    (hd : a.defers = []) (hp : a.tmps.getD 2 undef = .pointer (some ⟨w.heap.size + 1, 0, none⟩)) :
    bodyPost Tryd.prog Tryd.f32 (MadePost w Y) .ret a (six W (w.heap.size + 1) (.int .i64 d0) (.slice A4 k c4) (.bool b) (.int .i64 e0) (.int .i64 e1) (.int .i64 e2)) := by
  subst hk
  refine bodyPost_ret (results_c1 rfl _ _ hp (six_blk hR) rfl) hd ?_
  rw [← hY]
  have hoT := ho.trans ((six_only (w := W) (B := w.heap.size + 1) (v0 := .int .i64 d0) (v1 := .slice A4 acc.length c4) (v2 := .bool b) (v3 := .int .i64 e0) (v4 := .int .i64 e1) (v5 := .int .i64 e2)).mono (G := fun k => w.heap.size ≤ k ∧ k < w.heap.size + 3) (fun k hk => by omega))
  exact ⟨A4, _, c4, rfl, hrg.only hoT (fun x hx => by have := hfr x hx; omega), only_old hlow hoT (fun k hk => hk.1) hlow.size⟩
set_option maxHeartbeats 8000000 in
set_option maxRecDepth 100000 in
theorem made_any5 (hi dl : Int) (A : Option Addr) (n c : Nat) (f : Nat → Nat → Int) (A' : Option Addr) (m c' : Nat) (g : Nat → Nat → Int) (w : World) (hn : n ≤ 9223372036854775807) (hf : Rd w A 2 n f) (hm : m ≤ 9223372036854775807) (hg : Rd w A' 1 m g) :
    Calls Tryd.prog 32 #[.agg #[.int .i64 hi, .int .i64 dl, .slice A n c, .slice A' m c']] w (MadePost w (Frm.mk hi dl f n g m)) := by
  have hB1 := fun w => bring_same hi 9007199254740992 (by omega) (by omega) w
  have hB2 := fun w => bring_same dl 9007199254740992 (by omega) (by omega) w
  obtain ⟨Y, hY⟩ : ∃ Y, Frm.mk hi dl f n g m = Y := ⟨_, rfl⟩
  rw [hY]
  have q1 := Int.emod_nonneg hi (show (9007199254740992 : Int) ≠ 0 by omega)
  have q2 := Int.emod_lt_of_pos hi (show (0 : Int) < 9007199254740992 by omega)
  unfold Frm.mk at hY
  generalize hi % 9007199254740992 = h0 at *
  generalize dl % 9007199254740992 = d0 at *
  obtain ⟨W0, hW0⟩ : ∃ W0, (w.alloc (.cells #[.int .i64 hi, .int .i64 dl, .slice A n c, .slice A' m c'] 52)).alloc (.cells #[.int .i64 0, .slice none 0 0, .bool false, .int .i64 0, .int .i64 0, .int .i64 0] 25) = W0 := ⟨_, rfl⟩
  have hbS : Blk W0 w.heap.size 52 #[.int .i64 hi, .int .i64 dl, .slice A n c, .slice A' m c'] := by
    rw [← hW0]; exact (Blk.new w _ _).later (laterA (Below.refl _ _) _)
  have hbR : Blk W0 (w.heap.size + 1) 25 #[.int .i64 0, .slice none 0 0, .bool false, .int .i64 0, .int .i64 0, .int .i64 0] := by
    have := Blk.new (w.alloc (.cells #[.int .i64 hi, .int .i64 dl, .slice A n c, .slice A' m c'] 52)) 25 #[.int .i64 0, .slice none 0 0, .bool false, .int .i64 0, .int .i64 0, .int .i64 0]
    rw [World.size_alloc] at this
    rw [← hW0]; exact this
  have hlow : Below w.heap.size w W0 := by rw [← hW0]; exact laterA (laterA (Below.refl _ _) _) _
  have hs0 : W0.heap.size = w.heap.size + 2 := by rw [← hW0]; simp
  have hbX := Blk.new W0 25 #[.int .i64 d0, .slice none 0 0, .bool false, .int .i64 0, .int .i64 0, .int .i64 0]
  have hlX := laterA (Below.refl W0.heap.size W0) (.cells #[.int .i64 d0, .slice none 0 0, .bool false, .int .i64 0, .int .i64 0, .int .i64 0] 25)
  rw [hs0] at hbX
  have s0 := hbS.cell 0
  have s1 := hbS.cell 1
  have s2 := hbS.cell 2
  have s3 := hbS.cell 3
  simp at s0 s1 s2 s3
  replace hbS := Lib.hid hbS
  replace hbR := Lib.hid hbR
  replace hlow := Lib.hid hlow
  replace hbX := Lib.hid hbX
  replace hlX := Lib.hid hlX
  replace hf := Lib.hid hf
  replace hg := Lib.hid hg
  replace hY := Lib.hid hY
  go_enter Tryd.func32, Tryd.ntmps32
  go_wp2_with fail
  with_reducible refine (hB1 W0).mono ?_
  rintro e w1 ⟨rfl, rfl⟩
  go_wp2_with fail
  with_reducible refine (hB2 W0).mono ?_
  rintro e w1 ⟨rfl, rfl⟩
  clear hB1 hB2 s0 s1 s2 s3 hW0
  go_wp2_with fail
  go_loopw [3, 5] (fun hv iv wr => ∃ (k : Nat) (h : Int), hv = .int .i64 h ∧ iv = .int .i64 k ∧ k ≤ 256 ∧ -2199023255552 ≤ h ∧ h ≤ 9007199254740991 ∧ MI W0 (w.heap.size + 2) d0 f n h0 k h wr) (fun _ iv _ => 256 - (intOf iv).toNat)
  case atStart => exact ⟨0, h0, rfl, rfl, by omega, by omega, by omega, ⟨⟨_, [], hbX.out, OwnS.nil _, rfl, rfl⟩, hlX.out, hbX.out.lt⟩⟩
  case round =>
    obtain ⟨k, h, rfl, rfl, hk, hl1, hl2, hI⟩ := hrel
    obtain ⟨⟨v, acc, hbx, hown, hacc, heq⟩, hlw, hsz⟩ := hI
    have hbS1 := hbS.out.later hlw
    have s2 := hbS1.cell 2
    have s3 := hbS1.cell 3
    simp at s2 s3
    have hrd := (hf.out.later hlow.out).later hlw
    by_cases hgo : k < 256 ∧ 0 ≤ h ∧ (k = 0 ∨ k < n)
    · obtain ⟨hk6, hh0, hor⟩ := hgo
      have hstep := mrs_step f n k h hk6 ⟨hh0, hor⟩
      have hki : (k : Int) < 256 := by omega
      have hge : h ≥ 0 := hh0
      have hwk : IntKind.i64.wrap ((k : Int) + 1) = (k : Int) + 1 := IntWalk.i64_in _ (by omega)
      have hwh : IntKind.i64.wrap (h + 1) = h + 1 := IntWalk.i64_in _ (by omega)
      obtain ⟨M, hM⟩ : ∃ M, min (h + 1) 1099511627776 = M := ⟨_, rfl⟩
      have hM0 : 0 < M ∧ M ≤ h + 1 ∧ M ≤ 1099511627776 := by omega
      by_cases hkn : k < n
      · have hkni : (k : Int) < (n : Int) := by omega
        obtain ⟨b, off, rfl, hb, hcs⟩ := hrd (by omega)
        have g0 := hcs k hkn 0 (by omega)
        have g1 := hcs k hkn 1 (by omega)
        simp only [Nat.add_zero] at g0
        rw [← Nat.add_assoc] at g1
        rw [if_pos hkn, if_pos hkn, hM] at hstep
        generalize f k 0 = t0 at *
        generalize f k 1 = t1 at *
        have p1 := Int.emod_nonneg t0 (show M ≠ 0 by omega)
        have p2 := Int.emod_lt_of_pos t0 hM0.1
        have p3 := Int.emod_nonneg t1 (show (1099511627776 : Int) ≠ 0 by omega)
        have p4 := Int.emod_lt_of_pos t1 (show (0 : Int) < 1099511627776 by omega)
        have hB1 := fun w => bring_same t0 M (by omega) (by omega) w
        have hB2 := fun w => bring_same t1 1099511627776 (by omega) (by omega) w
        generalize t0 % M = e0 at *
        generalize t1 % 1099511627776 = e1 at *
        have w1 : IntKind.i64.wrap (h - e0) = h - e0 := IntWalk.i64_in _ (by omega)
        have w2 : IntKind.i64.wrap (h - e0 - 2) = h - e0 - 2 := IntWalk.i64_in _ (by omega)
        have w3 : IntKind.i64.wrap (h - e0 - 2 - e1) = h - e0 - 2 - e1 := IntWalk.i64_in _ (by omega)
        have hlt := hbS1.lt
        replace hbx := Lib.hid hbx
        replace hown := Lib.hid hown
        replace heq := Lib.hid heq
        replace hlw := Lib.hid hlw
        replace hbS1 := Lib.hid hbS1
        replace hrd := Lib.hid hrd
        replace hcs := Lib.hid hcs
        replace hstep := Lib.hid hstep
        by_cases hk0 : k = 0
        · have hkb : ((k : Int) == 0) = true := by simp [hk0]
          replace hk0 := Lib.hid hk0
          go_wp2_with fail
          with_reducible refine (hB1 _).mono ?_
          rintro e w4 ⟨rfl, rfl⟩
          have hbS2 := Blk.new wr 78 #[.int .i64 t0, .int .i64 t1]
          have hlS := laterA (Below.refl wr.heap.size wr) (.cells #[.int .i64 t0, .int .i64 t1] 78)
          generalize wr.alloc (.cells #[.int .i64 t0, .int .i64 t1] 78) = W1 at hbS2 hlS ⊢
          have hbx1 := hbx.out.later hlS
          have hown1 := hown.out.later hlS
          have hlw1 := old_later2 hlw.out hlS hlw.out.size
          have hsz1 := Nat.lt_of_lt_of_le hsz hlS.size
          have hx3 := Blk.new W1 36 #[.int .i64 (h - e0), .int .i64 h]
          have hl3 := laterA (Below.refl W1.heap.size W1) (.cells #[.int .i64 (h - e0), .int .i64 h] 36)
          have hown3 := hown1.later hl3
          have hbx3 := hbx1.later hl3
          have hbS3 := hbS2.later hl3
          have hlw3 := old_later2 hlw1 hl3 hlw1.size
          have hsz3 := Nat.lt_of_lt_of_le hsz1 hl3.size
          have a1 := hbx1.cell 1
          have f1 := hbx1.frozen 1
          simp at a1
          have hstp : wr.heap.size ≠ w.heap.size + 2 := by omega
          replace hbS2 := Lib.hid hbS2
          replace hlS := Lib.hid hlS
          replace hbx1 := Lib.hid hbx1
          replace hlw1 := Lib.hid hlw1
          replace hl3 := Lib.hid hl3
          replace hbx3 := Lib.hid hbx3
          replace hbS3 := Lib.hid hbS3
          replace hlw3 := Lib.hid hlw3
          clear hB1
          go_wp2_with (at_builtin; refine wpList_ows (enc := encR) (e := 36) (size := 2) (B := w.heap.size + 2 + 1) (l := acc) rfl _ _ 22 rfl Tryd.underlying22 range_info rfl (by omega) (by omega) W1.heap.size (h - e0, h) rfl rfl hown3 hx3 rfl (one_r _) hsz3 (by omega) ?_)
          intro v3 w5 hown4 hg4 hv3
          obtain ⟨A3, k3, c3, rfl⟩ : ∃ A k c, v3 = .slice A k c := by
            obtain ⟨A, c, he, _⟩ := hown4.cells len_r
            exact ⟨A, _, c, he⟩
          have hbx4 := blkS_row hbx3.out hown3 hg4 (by decide)
          have hbS4 := blkS_row hbS3.out hown3 hg4 (by decide)
          have hg5 := Only.of_row hg4
          have hlw4 := only_old hlw3.out hg5 (fun g hg => by have := (hown3.low g hg).1; omega) hlw3.out.size
          have hsz4 := Nat.lt_of_lt_of_le hsz3 hg4.size
          have a1' := hbx4.cell 1
          have f1' := hbx4.frozen 1
          simp at a1'
          have hbxS := hbx4.set_ 1 (.slice A3 k3 c3)
          have hoS : Only (· = w.heap.size + 2) w5 (w5.setCell ⟨w.heap.size + 2, 1, none⟩ (.slice A3 k3 c3)) := Only.set (F := (· = w.heap.size + 2)) (p := ⟨w.heap.size + 2, 1, none⟩) (Only.refl _ w5) rfl _
          have hbSS := hbS4.only hoS hstp
          have hownS := hown4.only hoS (fun g hg he => by have := (hown4.low g hg).1; omega)
          have hlwS := only_old hlw4 hoS (by rintro i rfl; omega) hlw4.size
          have hszS : w.heap.size + 2 < (w5.setCell ⟨w.heap.size + 2, 1, none⟩ (.slice A3 k3 c3)).heap.size := Nat.lt_of_lt_of_le hsz4 hoS.size
          have b1 := hbS4.cell 1
          have b1' := hbSS.cell 1
          simp at b1 b1'
          replace hown4 := Lib.hid hown4
          replace hbx4 := Lib.hid hbx4
          replace hbS4 := Lib.hid hbS4
          replace hlw4 := Lib.hid hlw4
          replace hbxS := Lib.hid hbxS
          replace hbSS := Lib.hid hbSS
          replace hownS := Lib.hid hownS
          replace hlwS := Lib.hid hlwS
          clear hown3 hg4 hg5 hv3 hbx3 hbS3 hlw3 hx3 a1 f1 hown1
          go_wp2_with fail
          with_reducible refine (hB2 _).mono ?_
          rintro e w6 ⟨rfl, rfl⟩
          clear hB2 a1' f1' b1 b1'
          go_wp2_with fail
          go_roundw
          case rel => exact ⟨k + 1, h - e0 - 2 - e1, rfl, by simp, by omega, by omega, by omega, ⟨⟨_, acc ++ [(h - e0, h)], hbxS.out, hownS.out, by simp; omega, by rw [← heq.out, hstep.out]; simp⟩, hlwS.out, hszS⟩⟩
          case measure => simp [intOf]; omega
        · have hkb : ((k : Int) == 0) = false := by simp; omega
          replace hk0 := Lib.hid hk0
          go_wp2_with fail
          with_reducible refine (hB1 _).mono ?_
          rintro e w4 ⟨rfl, rfl⟩
          have hbS2 := Blk.new wr 78 #[.int .i64 t0, .int .i64 t1]
          have hlS := laterA (Below.refl wr.heap.size wr) (.cells #[.int .i64 t0, .int .i64 t1] 78)
          generalize wr.alloc (.cells #[.int .i64 t0, .int .i64 t1] 78) = W1 at hbS2 hlS ⊢
          have hbx1 := hbx.out.later hlS
          have hown1 := hown.out.later hlS
          have hlw1 := old_later2 hlw.out hlS hlw.out.size
          have hsz1 := Nat.lt_of_lt_of_le hsz hlS.size
          have hx3 := Blk.new W1 36 #[.int .i64 (h - e0), .int .i64 h]
          have hl3 := laterA (Below.refl W1.heap.size W1) (.cells #[.int .i64 (h - e0), .int .i64 h] 36)
          have hown3 := hown1.later hl3
          have hbx3 := hbx1.later hl3
          have hbS3 := hbS2.later hl3
          have hlw3 := old_later2 hlw1 hl3 hlw1.size
          have hsz3 := Nat.lt_of_lt_of_le hsz1 hl3.size
          have a1 := hbx1.cell 1
          have f1 := hbx1.frozen 1
          simp at a1
          have hstp : wr.heap.size ≠ w.heap.size + 2 := by omega
          replace hbS2 := Lib.hid hbS2
          replace hlS := Lib.hid hlS
          replace hbx1 := Lib.hid hbx1
          replace hlw1 := Lib.hid hlw1
          replace hl3 := Lib.hid hl3
          replace hbx3 := Lib.hid hbx3
          replace hbS3 := Lib.hid hbS3
          replace hlw3 := Lib.hid hlw3
          clear hB1
          go_wp2_with (at_builtin; refine wpList_ows (enc := encR) (e := 36) (size := 2) (B := w.heap.size + 2 + 1) (l := acc) rfl _ _ 22 rfl Tryd.underlying22 range_info rfl (by omega) (by omega) W1.heap.size (h - e0, h) rfl rfl hown3 hx3 rfl (one_r _) hsz3 (by omega) ?_)
          intro v3 w5 hown4 hg4 hv3
          obtain ⟨A3, k3, c3, rfl⟩ : ∃ A k c, v3 = .slice A k c := by
            obtain ⟨A, c, he, _⟩ := hown4.cells len_r
            exact ⟨A, _, c, he⟩
          have hbx4 := blkS_row hbx3.out hown3 hg4 (by decide)
          have hbS4 := blkS_row hbS3.out hown3 hg4 (by decide)
          have hg5 := Only.of_row hg4
          have hlw4 := only_old hlw3.out hg5 (fun g hg => by have := (hown3.low g hg).1; omega) hlw3.out.size
          have hsz4 := Nat.lt_of_lt_of_le hsz3 hg4.size
          have a1' := hbx4.cell 1
          have f1' := hbx4.frozen 1
          simp at a1'
          have hbxS := hbx4.set_ 1 (.slice A3 k3 c3)
          have hoS : Only (· = w.heap.size + 2) w5 (w5.setCell ⟨w.heap.size + 2, 1, none⟩ (.slice A3 k3 c3)) := Only.set (F := (· = w.heap.size + 2)) (p := ⟨w.heap.size + 2, 1, none⟩) (Only.refl _ w5) rfl _
          have hbSS := hbS4.only hoS hstp
          have hownS := hown4.only hoS (fun g hg he => by have := (hown4.low g hg).1; omega)
          have hlwS := only_old hlw4 hoS (by rintro i rfl; omega) hlw4.size
          have hszS : w.heap.size + 2 < (w5.setCell ⟨w.heap.size + 2, 1, none⟩ (.slice A3 k3 c3)).heap.size := Nat.lt_of_lt_of_le hsz4 hoS.size
          have b1 := hbS4.cell 1
          have b1' := hbSS.cell 1
          simp at b1 b1'
          replace hown4 := Lib.hid hown4
          replace hbx4 := Lib.hid hbx4
          replace hbS4 := Lib.hid hbS4
          replace hlw4 := Lib.hid hlw4
          replace hbxS := Lib.hid hbxS
          replace hbSS := Lib.hid hbSS
          replace hownS := Lib.hid hownS
          replace hlwS := Lib.hid hlwS
          clear hown3 hg4 hg5 hv3 hbx3 hbS3 hlw3 hx3 a1 f1 hown1
          go_wp2_with fail
          with_reducible refine (hB2 _).mono ?_
          rintro e w6 ⟨rfl, rfl⟩
          clear hB2 a1' f1' b1 b1'
          go_wp2_with fail
          go_roundw
          case rel => exact ⟨k + 1, h - e0 - 2 - e1, rfl, by simp, by omega, by omega, by omega, ⟨⟨_, acc ++ [(h - e0, h)], hbxS.out, hownS.out, by simp; omega, by rw [← heq.out, hstep.out]; simp⟩, hlwS.out, hszS⟩⟩
          case measure => simp [intOf]; omega
      · have hk0 : k = 0 := by omega
        have hkni : ¬ (k : Int) < (n : Int) := by omega
        have hkb : ((k : Int) == 0) = true := by simp [hk0]
        rw [if_neg hkn, if_neg hkn, hM] at hstep
        have p1 := Int.emod_nonneg 0 (show M ≠ 0 by omega)
        have p2 := Int.emod_lt_of_pos 0 hM0.1
        have p3 := Int.emod_nonneg 0 (show (1099511627776 : Int) ≠ 0 by omega)
        have p4 := Int.emod_lt_of_pos 0 (show (0 : Int) < 1099511627776 by omega)
        have hB1 := fun w => bring_same 0 M (by omega) (by omega) w
        have hB2 := fun w => bring_same 0 1099511627776 (by omega) (by omega) w
        generalize (0 : Int) % M = e0 at *
        generalize (0 : Int) % 1099511627776 = e1 at *
        have w1 : IntKind.i64.wrap (h - e0) = h - e0 := IntWalk.i64_in _ (by omega)
        have w2 : IntKind.i64.wrap (h - e0 - 2) = h - e0 - 2 := IntWalk.i64_in _ (by omega)
        have w3 : IntKind.i64.wrap (h - e0 - 2 - e1) = h - e0 - 2 - e1 := IntWalk.i64_in _ (by omega)
        have hlt := hbS1.lt
        replace hbx := Lib.hid hbx
        replace hown := Lib.hid hown
        replace heq := Lib.hid heq
        replace hlw := Lib.hid hlw
        replace hbS1 := Lib.hid hbS1
        replace hrd := Lib.hid hrd
        replace hstep := Lib.hid hstep
        replace hk0 := Lib.hid hk0
        clear hor hkn
        go_wp2_with fail
        with_reducible refine (hB1 _).mono ?_
        rintro e w4 ⟨rfl, rfl⟩
        have hbS2 := Blk.new wr 78 #[.int .i64 0, .int .i64 0]
        have hlS := laterA (Below.refl wr.heap.size wr) (.cells #[.int .i64 0, .int .i64 0] 78)
        generalize wr.alloc (.cells #[.int .i64 0, .int .i64 0] 78) = W1 at hbS2 hlS ⊢
        have hbx1 := hbx.out.later hlS
        have hown1 := hown.out.later hlS
        have hlw1 := old_later2 hlw.out hlS hlw.out.size
        have hsz1 := Nat.lt_of_lt_of_le hsz hlS.size
        have hx3 := Blk.new W1 36 #[.int .i64 (h - e0), .int .i64 h]
        have hl3 := laterA (Below.refl W1.heap.size W1) (.cells #[.int .i64 (h - e0), .int .i64 h] 36)
        have hown3 := hown1.later hl3
        have hbx3 := hbx1.later hl3
        have hbS3 := hbS2.later hl3
        have hlw3 := old_later2 hlw1 hl3 hlw1.size
        have hsz3 := Nat.lt_of_lt_of_le hsz1 hl3.size
        have a1 := hbx1.cell 1
        have f1 := hbx1.frozen 1
        simp at a1
        have hstp : wr.heap.size ≠ w.heap.size + 2 := by omega
        replace hbS2 := Lib.hid hbS2
        replace hlS := Lib.hid hlS
        replace hbx1 := Lib.hid hbx1
        replace hlw1 := Lib.hid hlw1
        replace hl3 := Lib.hid hl3
        replace hbx3 := Lib.hid hbx3
        replace hbS3 := Lib.hid hbS3
        replace hlw3 := Lib.hid hlw3
        clear hB1
        go_wp2_with (at_builtin; refine wpList_ows (enc := encR) (e := 36) (size := 2) (B := w.heap.size + 2 + 1) (l := acc) rfl _ _ 22 rfl Tryd.underlying22 range_info rfl (by omega) (by omega) W1.heap.size (h - e0, h) rfl rfl hown3 hx3 rfl (one_r _) hsz3 (by omega) ?_)
        intro v3 w5 hown4 hg4 hv3
        obtain ⟨A3, k3, c3, rfl⟩ : ∃ A k c, v3 = .slice A k c := by
          obtain ⟨A, c, he, _⟩ := hown4.cells len_r
          exact ⟨A, _, c, he⟩
        have hbx4 := blkS_row hbx3.out hown3 hg4 (by decide)
        have hbS4 := blkS_row hbS3.out hown3 hg4 (by decide)
        have hg5 := Only.of_row hg4
        have hlw4 := only_old hlw3.out hg5 (fun g hg => by have := (hown3.low g hg).1; omega) hlw3.out.size
        have hsz4 := Nat.lt_of_lt_of_le hsz3 hg4.size
        have a1' := hbx4.cell 1
        have f1' := hbx4.frozen 1
        simp at a1'
        have hbxS := hbx4.set_ 1 (.slice A3 k3 c3)
        have hoS : Only (· = w.heap.size + 2) w5 (w5.setCell ⟨w.heap.size + 2, 1, none⟩ (.slice A3 k3 c3)) := Only.set (F := (· = w.heap.size + 2)) (p := ⟨w.heap.size + 2, 1, none⟩) (Only.refl _ w5) rfl _
        have hbSS := hbS4.only hoS hstp
        have hownS := hown4.only hoS (fun g hg he => by have := (hown4.low g hg).1; omega)
        have hlwS := only_old hlw4 hoS (by rintro i rfl; omega) hlw4.size
        have hszS : w.heap.size + 2 < (w5.setCell ⟨w.heap.size + 2, 1, none⟩ (.slice A3 k3 c3)).heap.size := Nat.lt_of_lt_of_le hsz4 hoS.size
        have b1 := hbS4.cell 1
        have b1' := hbSS.cell 1
        simp at b1 b1'
        replace hown4 := Lib.hid hown4
        replace hbx4 := Lib.hid hbx4
        replace hbS4 := Lib.hid hbS4
        replace hlw4 := Lib.hid hlw4
        replace hbxS := Lib.hid hbxS
        replace hbSS := Lib.hid hbSS
        replace hownS := Lib.hid hownS
        replace hlwS := Lib.hid hlwS
        clear hown3 hg4 hg5 hv3 hbx3 hbS3 hlw3 hx3 a1 f1 hown1
        go_wp2_with fail
        with_reducible refine (hB2 _).mono ?_
        rintro e w6 ⟨rfl, rfl⟩
        clear hB2 a1' f1' b1 b1'
        go_wp2_with fail
        go_roundw
        case rel => exact ⟨k + 1, h - e0 - 2 - e1, rfl, by simp, by omega, by omega, by omega, ⟨⟨_, acc ++ [(h - e0, h)], hbxS.out, hownS.out, by simp; omega, by rw [← heq.out, hstep.out]; simp⟩, hlwS.out, hszS⟩⟩
        case measure => simp [intOf]; omega
    · have hend := mrs_end f n k h hgo
      rw [hend, List.append_nil] at heq
      obtain ⟨A4, c4, rfl, hrg4, hfr4⟩ := hown.rg
      have hbR1 := hbR.out.later hlw
      have hlw0 := old_later2 hlow.out hlw hlow.out.size
      have c0 := hbx.cell 0
      have c1 := hbx.cell 1
      have c2 := hbx.cell 2
      have c3 := hbx.cell 3
      have c4' := hbx.cell 4
      have c5 := hbx.cell 5
      have u0 := hbx.frozen 2
      have u3 := hbx.frozen 3
      have u4 := hbx.frozen 4
      have u5 := hbx.frozen 5
      have r0 := hbR1.cell 0
      have r1 := hbR1.cell 1
      have r2 := hbR1.cell 2
      have r3 := hbR1.cell 3
      have r4 := hbR1.cell 4
      have r5 := hbR1.cell 5
      have x0 := hbR1.frozen 0
      have x1 := hbR1.frozen 1
      have x2 := hbR1.frozen 2
      have x3 := hbR1.frozen 3
      have x4 := hbR1.frozen 4
      have x5 := hbR1.frozen 5
      simp at c0 c1 c2 c3 c4' c5 r0 r1 r2 r3 r4 r5
      by_cases hk6 : k < 256
      · have hki : (k : Int) < 256 := by omega
        by_cases hh0 : 0 ≤ h
        · have hge : h ≥ 0 := hh0
          have hk0 : k ≠ 0 := fun hk => hgo ⟨hk6, hh0, .inl hk⟩
          have hkn : ¬ k < n := fun hk => hgo ⟨hk6, hh0, .inr hk⟩
          have hkb : ((k : Int) == 0) = false := by simp; omega
          have hkni : ¬ (k : Int) < (n : Int) := by omega
          clear hk0
          by_cases hm3 : 3 ≤ m
          · have hm3i : (m : Int) ≥ 3 := by omega
            obtain ⟨b, off, rfl, hb, hcs⟩ := hg.out (by omega)
            have hbne : ¬ b = w.heap.size + 2 := by omega
            have y0 := (hlw.cell (p := ⟨b, off, none⟩) (show b < W0.heap.size by omega)).trans ((hlow.out.cell (p := ⟨b, off, none⟩) hb).trans (by have := hcs 0 (by omega) 0 (by omega); simpa using this))
            have y1 := (hlw.cell (p := ⟨b, off + 1, none⟩) (show b < W0.heap.size by omega)).trans ((hlow.out.cell (p := ⟨b, off + 1, none⟩) hb).trans (by have := hcs 1 (by omega) 0 (by omega); simpa using this))
            have y2 := (hlw.cell (p := ⟨b, off + 2, none⟩) (show b < W0.heap.size by omega)).trans ((hlow.out.cell (p := ⟨b, off + 2, none⟩) hb).trans (by have := hcs 2 (by omega) 0 (by omega); simpa using this))
            have hY2 : (⟨d0, acc, true, g 0 0 % 9007199254740992, g 1 0 % 9007199254740992, g 2 0 % 9007199254740992⟩ : Frm.Ak) = Y := by
              rw [← hY.out, heq, decide_eq_true hm3, if_pos hm3, if_pos hm3, if_pos hm3]
            have hB0 := fun w => bring_same (g 0 0) 9007199254740992 (by omega) (by omega) w
            have hB1 := fun w => bring_same (g 1 0) 9007199254740992 (by omega) (by omega) w
            have hB2 := fun w => bring_same (g 2 0) 9007199254740992 (by omega) (by omega) w
            generalize g 0 0 = t0 at *
            generalize g 1 0 = t1 at *
            generalize g 2 0 = t2 at *
            generalize t0 % 9007199254740992 = e0 at *
            generalize t1 % 9007199254740992 = e1 at *
            generalize t2 % 9007199254740992 = e2 at *
            replace hY2 := Lib.hid hY2
            replace hcs := Lib.hid hcs
            replace hbx := Lib.hid hbx
            replace hown := Lib.hid hown
            replace hlw := Lib.hid hlw
            replace heq := Lib.hid heq
            replace hbS1 := Lib.hid hbS1
            replace hrd := Lib.hid hrd
            replace hbR1 := Lib.hid hbR1
            go_wp2_with fail
            refine wp_loop_rounds 4 ?_
            rw [rounds_succ]
            go_wp2_with fail
            with_reducible refine (hB0 _).mono ?_
            rintro e w4 ⟨rfl, rfl⟩
            go_wp2_with fail
            rw [rounds_succ]
            go_wp2_with fail
            with_reducible refine (hB1 _).mono ?_
            rintro e w4 ⟨rfl, rfl⟩
            go_wp2_with fail
            rw [rounds_succ]
            go_wp2_with fail
            with_reducible refine (hB2 _).mono ?_
            rintro e w4 ⟨rfl, rfl⟩
            go_wp2_with fail
            rw [rounds_succ]
            go_wp2_with fail
            have ho4 : Only (· = w.heap.size + 2) wr ((((wr.setCell ⟨w.heap.size + 2, 2, none⟩ (.bool true)).setCell ⟨w.heap.size + 2, 3, none⟩ (.int .i64 e0)).setCell ⟨w.heap.size + 2, 4, none⟩ (.int .i64 e1)).setCell ⟨w.heap.size + 2, 5, none⟩ (.int .i64 e2)) :=
              Only.set (F := (· = w.heap.size + 2)) (p := ⟨w.heap.size + 2, 5, none⟩) (Only.set (F := (· = w.heap.size + 2)) (p := ⟨w.heap.size + 2, 4, none⟩) (Only.set (F := (· = w.heap.size + 2)) (p := ⟨w.heap.size + 2, 3, none⟩) (Only.set (F := (· = w.heap.size + 2)) (p := ⟨w.heap.size + 2, 2, none⟩) (Only.refl _ wr) rfl _) rfl _) rfl _) rfl _
            have hR4 := hbR1.out.only ho4 (by omega)
            obtain ⟨W4, hW4⟩ : ∃ W, ((((wr.setCell ⟨w.heap.size + 2, 2, none⟩ (.bool true)).setCell ⟨w.heap.size + 2, 3, none⟩ (.int .i64 e0)).setCell ⟨w.heap.size + 2, 4, none⟩ (.int .i64 e1)).setCell ⟨w.heap.size + 2, 5, none⟩ (.int .i64 e2)) = W := ⟨_, rfl⟩
            rw [hW4] at ho4 hR4 ⊢
            clear hW4
            have ho6 := ho4.mono (G := fun k => w.heap.size ≤ k ∧ k < w.heap.size + 3) (fun k hk => by omega)
            exact made_end hacc hY2.out hR4 ho6 hrg4 hfr4 hlw0 rfl rfl
          · have hm3i : ¬ (m : Int) ≥ 3 := by omega
            have hY2 : (⟨d0, acc, false, 0, 0, 0⟩ : Frm.Ak) = Y := by
              rw [← hY.out, heq, decide_eq_false hm3, if_neg hm3, if_neg hm3, if_neg hm3]
            replace hY2 := Lib.hid hY2
            replace hbx := Lib.hid hbx
            replace hown := Lib.hid hown
            replace hlw := Lib.hid hlw
            replace heq := Lib.hid heq
            replace hbS1 := Lib.hid hbS1
            replace hrd := Lib.hid hrd
            replace hbR1 := Lib.hid hbR1
            go_wp2_with fail
            exact made_end hacc hY2.out hbR1.out (Only.refl _ _) hrg4 hfr4 hlw0 rfl rfl
        · have hge : ¬ h ≥ 0 := hh0
          by_cases hm3 : 3 ≤ m
          · have hm3i : (m : Int) ≥ 3 := by omega
            obtain ⟨b, off, rfl, hb, hcs⟩ := hg.out (by omega)
            have hbne : ¬ b = w.heap.size + 2 := by omega
            have y0 := (hlw.cell (p := ⟨b, off, none⟩) (show b < W0.heap.size by omega)).trans ((hlow.out.cell (p := ⟨b, off, none⟩) hb).trans (by have := hcs 0 (by omega) 0 (by omega); simpa using this))
            have y1 := (hlw.cell (p := ⟨b, off + 1, none⟩) (show b < W0.heap.size by omega)).trans ((hlow.out.cell (p := ⟨b, off + 1, none⟩) hb).trans (by have := hcs 1 (by omega) 0 (by omega); simpa using this))
            have y2 := (hlw.cell (p := ⟨b, off + 2, none⟩) (show b < W0.heap.size by omega)).trans ((hlow.out.cell (p := ⟨b, off + 2, none⟩) hb).trans (by have := hcs 2 (by omega) 0 (by omega); simpa using this))
            have hY2 : (⟨d0, acc, true, g 0 0 % 9007199254740992, g 1 0 % 9007199254740992, g 2 0 % 9007199254740992⟩ : Frm.Ak) = Y := by
              rw [← hY.out, heq, decide_eq_true hm3, if_pos hm3, if_pos hm3, if_pos hm3]
            have hB0 := fun w => bring_same (g 0 0) 9007199254740992 (by omega) (by omega) w
            have hB1 := fun w => bring_same (g 1 0) 9007199254740992 (by omega) (by omega) w
            have hB2 := fun w => bring_same (g 2 0) 9007199254740992 (by omega) (by omega) w
            generalize g 0 0 = t0 at *
            generalize g 1 0 = t1 at *
            generalize g 2 0 = t2 at *
            generalize t0 % 9007199254740992 = e0 at *
            generalize t1 % 9007199254740992 = e1 at *
            generalize t2 % 9007199254740992 = e2 at *
            replace hY2 := Lib.hid hY2
            replace hcs := Lib.hid hcs
            replace hbx := Lib.hid hbx
            replace hown := Lib.hid hown
            replace hlw := Lib.hid hlw
            replace heq := Lib.hid heq
            replace hbS1 := Lib.hid hbS1
            replace hrd := Lib.hid hrd
            replace hbR1 := Lib.hid hbR1
            go_wp2_with fail
            refine wp_loop_rounds 4 ?_
            rw [rounds_succ]
            go_wp2_with fail
            with_reducible refine (hB0 _).mono ?_
            rintro e w4 ⟨rfl, rfl⟩
            go_wp2_with fail
            rw [rounds_succ]
            go_wp2_with fail
            with_reducible refine (hB1 _).mono ?_
            rintro e w4 ⟨rfl, rfl⟩
            go_wp2_with fail
            rw [rounds_succ]
            go_wp2_with fail
            with_reducible refine (hB2 _).mono ?_
            rintro e w4 ⟨rfl, rfl⟩
            go_wp2_with fail
            rw [rounds_succ]
            go_wp2_with fail
            have ho4 : Only (· = w.heap.size + 2) wr ((((wr.setCell ⟨w.heap.size + 2, 2, none⟩ (.bool true)).setCell ⟨w.heap.size + 2, 3, none⟩ (.int .i64 e0)).setCell ⟨w.heap.size + 2, 4, none⟩ (.int .i64 e1)).setCell ⟨w.heap.size + 2, 5, none⟩ (.int .i64 e2)) :=
              Only.set (F := (· = w.heap.size + 2)) (p := ⟨w.heap.size + 2, 5, none⟩) (Only.set (F := (· = w.heap.size + 2)) (p := ⟨w.heap.size + 2, 4, none⟩) (Only.set (F := (· = w.heap.size + 2)) (p := ⟨w.heap.size + 2, 3, none⟩) (Only.set (F := (· = w.heap.size + 2)) (p := ⟨w.heap.size + 2, 2, none⟩) (Only.refl _ wr) rfl _) rfl _) rfl _) rfl _
            have hR4 := hbR1.out.only ho4 (by omega)
            obtain ⟨W4, hW4⟩ : ∃ W, ((((wr.setCell ⟨w.heap.size + 2, 2, none⟩ (.bool true)).setCell ⟨w.heap.size + 2, 3, none⟩ (.int .i64 e0)).setCell ⟨w.heap.size + 2, 4, none⟩ (.int .i64 e1)).setCell ⟨w.heap.size + 2, 5, none⟩ (.int .i64 e2)) = W := ⟨_, rfl⟩
            rw [hW4] at ho4 hR4 ⊢
            clear hW4
            have ho6 := ho4.mono (G := fun k => w.heap.size ≤ k ∧ k < w.heap.size + 3) (fun k hk => by omega)
            exact made_end hacc hY2.out hR4 ho6 hrg4 hfr4 hlw0 rfl rfl
          · have hm3i : ¬ (m : Int) ≥ 3 := by omega
            have hY2 : (⟨d0, acc, false, 0, 0, 0⟩ : Frm.Ak) = Y := by
              rw [← hY.out, heq, decide_eq_false hm3, if_neg hm3, if_neg hm3, if_neg hm3]
            replace hY2 := Lib.hid hY2
            replace hbx := Lib.hid hbx
            replace hown := Lib.hid hown
            replace hlw := Lib.hid hlw
            replace heq := Lib.hid heq
            replace hbS1 := Lib.hid hbS1
            replace hrd := Lib.hid hrd
            replace hbR1 := Lib.hid hbR1
            go_wp2_with fail
            exact made_end hacc hY2.out hbR1.out (Only.refl _ _) hrg4 hfr4 hlw0 rfl rfl
      · have hki : ¬ (k : Int) < 256 := by omega
        by_cases hm3 : 3 ≤ m
        · have hm3i : (m : Int) ≥ 3 := by omega
          obtain ⟨b, off, rfl, hb, hcs⟩ := hg.out (by omega)
          have hbne : ¬ b = w.heap.size + 2 := by omega
          have y0 := (hlw.cell (p := ⟨b, off, none⟩) (show b < W0.heap.size by omega)).trans ((hlow.out.cell (p := ⟨b, off, none⟩) hb).trans (by have := hcs 0 (by omega) 0 (by omega); simpa using this))
          have y1 := (hlw.cell (p := ⟨b, off + 1, none⟩) (show b < W0.heap.size by omega)).trans ((hlow.out.cell (p := ⟨b, off + 1, none⟩) hb).trans (by have := hcs 1 (by omega) 0 (by omega); simpa using this))
          have y2 := (hlw.cell (p := ⟨b, off + 2, none⟩) (show b < W0.heap.size by omega)).trans ((hlow.out.cell (p := ⟨b, off + 2, none⟩) hb).trans (by have := hcs 2 (by omega) 0 (by omega); simpa using this))
          have hY2 : (⟨d0, acc, true, g 0 0 % 9007199254740992, g 1 0 % 9007199254740992, g 2 0 % 9007199254740992⟩ : Frm.Ak) = Y := by
            rw [← hY.out, heq, decide_eq_true hm3, if_pos hm3, if_pos hm3, if_pos hm3]
          have hB0 := fun w => bring_same (g 0 0) 9007199254740992 (by omega) (by omega) w
          have hB1 := fun w => bring_same (g 1 0) 9007199254740992 (by omega) (by omega) w
          have hB2 := fun w => bring_same (g 2 0) 9007199254740992 (by omega) (by omega) w
          generalize g 0 0 = t0 at *
          generalize g 1 0 = t1 at *
          generalize g 2 0 = t2 at *
          generalize t0 % 9007199254740992 = e0 at *
          generalize t1 % 9007199254740992 = e1 at *
          generalize t2 % 9007199254740992 = e2 at *
          replace hY2 := Lib.hid hY2
          replace hcs := Lib.hid hcs
          replace hbx := Lib.hid hbx
          replace hown := Lib.hid hown
          replace hlw := Lib.hid hlw
          replace heq := Lib.hid heq
          replace hbS1 := Lib.hid hbS1
          replace hrd := Lib.hid hrd
          replace hbR1 := Lib.hid hbR1
          go_wp2_with fail
          refine wp_loop_rounds 4 ?_
          rw [rounds_succ]
          go_wp2_with fail
          with_reducible refine (hB0 _).mono ?_
          rintro e w4 ⟨rfl, rfl⟩
          go_wp2_with fail
          rw [rounds_succ]
          go_wp2_with fail
          with_reducible refine (hB1 _).mono ?_
          rintro e w4 ⟨rfl, rfl⟩
          go_wp2_with fail
          rw [rounds_succ]
          go_wp2_with fail
          with_reducible refine (hB2 _).mono ?_
          rintro e w4 ⟨rfl, rfl⟩
          go_wp2_with fail
          rw [rounds_succ]
          go_wp2_with fail
          have ho4 : Only (· = w.heap.size + 2) wr ((((wr.setCell ⟨w.heap.size + 2, 2, none⟩ (.bool true)).setCell ⟨w.heap.size + 2, 3, none⟩ (.int .i64 e0)).setCell ⟨w.heap.size + 2, 4, none⟩ (.int .i64 e1)).setCell ⟨w.heap.size + 2, 5, none⟩ (.int .i64 e2)) :=
            Only.set (F := (· = w.heap.size + 2)) (p := ⟨w.heap.size + 2, 5, none⟩) (Only.set (F := (· = w.heap.size + 2)) (p := ⟨w.heap.size + 2, 4, none⟩) (Only.set (F := (· = w.heap.size + 2)) (p := ⟨w.heap.size + 2, 3, none⟩) (Only.set (F := (· = w.heap.size + 2)) (p := ⟨w.heap.size + 2, 2, none⟩) (Only.refl _ wr) rfl _) rfl _) rfl _) rfl _
          have hR4 := hbR1.out.only ho4 (by omega)
          obtain ⟨W4, hW4⟩ : ∃ W, ((((wr.setCell ⟨w.heap.size + 2, 2, none⟩ (.bool true)).setCell ⟨w.heap.size + 2, 3, none⟩ (.int .i64 e0)).setCell ⟨w.heap.size + 2, 4, none⟩ (.int .i64 e1)).setCell ⟨w.heap.size + 2, 5, none⟩ (.int .i64 e2)) = W := ⟨_, rfl⟩
          rw [hW4] at ho4 hR4 ⊢
          clear hW4
          have ho6 := ho4.mono (G := fun k => w.heap.size ≤ k ∧ k < w.heap.size + 3) (fun k hk => by omega)
          exact made_end hacc hY2.out hR4 ho6 hrg4 hfr4 hlw0 rfl rfl
        · have hm3i : ¬ (m : Int) ≥ 3 := by omega
          have hY2 : (⟨d0, acc, false, 0, 0, 0⟩ : Frm.Ak) = Y := by
            rw [← hY.out, heq, decide_eq_false hm3, if_neg hm3, if_neg hm3, if_neg hm3]
          replace hY2 := Lib.hid hY2
          replace hbx := Lib.hid hbx
          replace hown := Lib.hid hown
          replace hlw := Lib.hid hlw
          replace heq := Lib.hid heq
          replace hbS1 := Lib.hid hbS1
          replace hrd := Lib.hid hrd
          replace hbR1 := Lib.hid hbR1
          go_wp2_with fail
          exact made_end hacc hY2.out hbR1.out (Only.refl _ _) hrg4 hfr4 hlw0 rfl rfl
end Go.Proofs.YtpagdcobhbkabaaDoor
