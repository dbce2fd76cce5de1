/-
  The laws of layer 15: AmplOrder.
-/
import Derived.Test.YthlpjpcmbpbplaaAmpF
namespace Go.Proofs.Ythlpjpcmbpbplaa
open Go.RowKit Go.Sort

namespace Amp
/-- The sum of the first k. -/
def tot (f : Nat → Int) : Nat → Int
  | 0 => 0
  | k + 1 => tot f k + f k
theorem tot_congr {f g : Nat → Int} : ∀ {k : Nat}, (∀ j, j < k → f j = g j) → tot f k = tot g k
  | 0, _ => rfl
  | k + 1, h => by
    show tot f k + f k = tot g k + g k
    rw [tot_congr (fun j hj => h j (by omega)), h k (by omega)]
theorem tot_front (f : Nat → Int) : ∀ k : Nat, tot f (k + 1) = f 0 + tot (fun j => f (j + 1)) k
  | 0 => by simp [tot]
  | k + 1 => by
    show tot f (k + 1) + f (k + 1) = f 0 + (tot (fun j => f (j + 1)) k + f (k + 1))
    rw [tot_front f k, Int.add_assoc]
theorem tot_rev (f : Nat → Int) : ∀ k : Nat, tot (fun j => f (k - 1 - j)) k = tot f k
  | 0 => rfl
  | k + 1 => by
    rw [tot_front]
    show f (k + 1 - 1 - 0) + tot (fun j => f (k + 1 - 1 - (j + 1))) k = tot f k + f k
    rw [tot_congr (g := fun j => f (k - 1 - j)) (fun j hj => congrArg f (by omega)), tot_rev f k, show k + 1 - 1 - 0 = k by omega, Int.add_comm]
theorem tot_range {f : Nat → Int} (h : ∀ j, 0 ≤ f j ∧ f j ≤ 65535) : ∀ k : Nat, 0 ≤ tot f k ∧ tot f k ≤ 65535 * (k : Int)
  | 0 => by simp [tot]
  | k + 1 => by
    have h1 := tot_range h k
    have h2 := h k
    have : tot f (k + 1) = tot f k + f k := rfl
    omega
/-- What is got, and what is sent, of an element. -/
def up (x : Int) : Int := x % 65536
def third (x : Int) : Int := wrap64 (x.tdiv 3) % 65536
theorem up_range (x : Int) : 0 ≤ up x ∧ up x ≤ 65535 := by
  have h0 := Int.emod_nonneg x (show (65536 : Int) ≠ 0 by omega)
  have h1 := Int.emod_lt_of_pos x (show (0 : Int) < 65536 by omega)
  unfold up; omega
theorem third_range (x : Int) : 0 ≤ third x ∧ third x ≤ 65535 := up_range _
end Amp

set_option maxRecDepth 100000 in
theorem order_any (A : Option Addr) (n c : Nat) (f : Nat → Nat → Int) (w : World) (hn : n ≤ 9223372036854775807) (hr : Rd w A 1 n f) (hl : n ≤ c) (hc : c ≤ 9223372036854775807) :
    Calls Try.prog 4 #[.slice A n c] w fun e w' => e = .returned (.bool true) ∧ Below w.heap.size w w' := by
  have HR := Lib.hid hr
  clear hr
  go_enter Try.func4, Try.ntmps4
  go_wp2_with fail
  refine (new_any true _).mono ?_
  rintro e wb ⟨rfl, lb, bb⟩
  go_wp2_with fail
  refine (new_any true _).mono ?_
  rintro e wc ⟨rfl, lc, bc⟩
  have h41 : min n 40 ≤ c := by omega
  go_wp2_with fail
  obtain ⟨N, hN⟩ : ∃ N : Nat, (min (n : Int) 40).toNat = N := ⟨_, rfl⟩
  rw [hN]
  have hNn : N ≤ n := by omega
  have hN40 : N ≤ 40 := by omega
  clear hN h41 hl hc
  have hLL : w.heap.size < wb.heap.size := Blk.lt lb
  have hbc := later bb bc
  have lb := Blk.later lb bc
  generalize wb.heap.size = L at *
  clear bc bb
  go_loopw [5] (fun i wr => ∃ (k : Nat), i = .int .i64 k ∧ k ≤ N ∧ Lim wr w.heap.size (Amp.tot (fun j => Amp.up (f j 0)) k) (Amp.tot (fun j => Amp.third (f j 0)) k) true ∧ Lim wr L (Amp.tot (fun j => Amp.up (f (N - 1 - j) 0)) k) (Amp.tot (fun j => Amp.third (f (N - 1 - j) 0)) k) true ∧ Below w.heap.size w wr) (fun i _ => 40 - (intOf i).toNat)
  case atStart => exact ⟨0, rfl, by omega, lb, lc, hbc⟩
  case round =>
    obtain ⟨k, rfl, hk, hl, hm, hbw⟩ := hrel
    clear lb lc hbc
    have hl := Lib.hid hl
    have hm := Lib.hid hm
    have hbw := Lib.hid hbw
    by_cases hlt : k < N
    · obtain ⟨r, hr⟩ : ∃ r : Nat, N - 1 - k = r := ⟨_, rfl⟩
      have hr' : (N : Int) - 1 - k = r := by omega
      have hrn : r < n := by omega
      obtain ⟨G, hG⟩ : ∃ G, Amp.tot (fun j => Amp.up (f j 0)) k = G := ⟨_, rfl⟩
      obtain ⟨S, hS⟩ : ∃ S, Amp.tot (fun j => Amp.third (f j 0)) k = S := ⟨_, rfl⟩
      obtain ⟨G', hG'⟩ : ∃ G, Amp.tot (fun j => Amp.up (f (N - 1 - j) 0)) k = G := ⟨_, rfl⟩
      obtain ⟨S', hS'⟩ : ∃ S, Amp.tot (fun j => Amp.third (f (N - 1 - j) 0)) k = S := ⟨_, rfl⟩
      have G0 := Amp.tot_range (f := fun j => Amp.up (f j 0)) (fun j => Amp.up_range _) k
      have S0 := Amp.tot_range (f := fun j => Amp.third (f j 0)) (fun j => Amp.third_range _) k
      have G0' := Amp.tot_range (f := fun j => Amp.up (f (N - 1 - j) 0)) (fun j => Amp.up_range _) k
      have S0' := Amp.tot_range (f := fun j => Amp.third (f (N - 1 - j) 0)) (fun j => Amp.third_range _) k
      have G1 : Amp.tot (fun j => Amp.up (f j 0)) (k + 1) = G + Amp.up (f k 0) := by rw [← hG]; rfl
      have S1 : Amp.tot (fun j => Amp.third (f j 0)) (k + 1) = S + Amp.third (f k 0) := by rw [← hS]; rfl
      have G1' : Amp.tot (fun j => Amp.up (f (N - 1 - j) 0)) (k + 1) = G' + Amp.up (f r 0) := by rw [← hG', ← hr]; rfl
      have S1' : Amp.tot (fun j => Amp.third (f (N - 1 - j) 0)) (k + 1) = S' + Amp.third (f r 0) := by rw [← hS', ← hr]; rfl
      rw [hG] at G0
      rw [hS] at S0
      rw [hG'] at G0'
      rw [hS'] at S0'
      rw [hG, hS] at hl
      rw [hG', hS'] at hm
      have R1 := Amp.up_range (f k 0)
      have R2 := Amp.third_range (f k 0)
      have R3 := Amp.up_range (f r 0)
      have R4 := Amp.third_range (f r 0)
      have s1 := Lib.hid (lsize_to (f k 0) (Amp.up (f k 0)) rfl)
      have s2 := Lib.hid (lsize_to (wrap64 ((f k 0).tdiv 3)) (Amp.third (f k 0)) rfl)
      have s3 := Lib.hid (lsize_to (f r 0) (Amp.up (f r 0)) rfl)
      have s4 := Lib.hid (lsize_to (wrap64 ((f r 0).tdiv 3)) (Amp.third (f r 0)) rfl)
      have cA := HR.out.at (show k < n by omega)
      have cB := HR.out.at hrn
      have F := Lib.hid (And.intro G1 (And.intro S1 (And.intro G1' S1')))
      clear hG hS hG' hS' G1 S1 G1' S1' hr
      generalize hu : Amp.up (f k 0) = u at *
      generalize hu1 : Amp.third (f k 0) = u1 at *
      generalize hv : Amp.up (f r 0) = v at *
      generalize hv1 : Amp.third (f r 0) = v1 at *
      clear hu hu1 hv hv1
      generalize f k 0 = x at *
      generalize f r 0 = y at *
      obtain ⟨b, off, rfl, cA⟩ := cA
      obtain ⟨b', off', hbe, cB⟩ := cB
      injection hbe with hbe
      injection hbe with hb1 hb2
      subst hb1 hb2
      have x1 := cA _ hbw.out
      have y1 := cB _ hbw.out
      have cA := Lib.hid cA
      have cB := Lib.hid cB
      go_wp2_with fail
      refine (s1.out _).mono ?_
      rintro e w1 ⟨rfl, rfl⟩
      go_wp2_with fail
      refine (got_to _ G S u (G + u) 0 true _ (Amp.gotE_ok (by omega) (by omega)) (Amp.gotG_ok (by omega) (by omega) (by omega) (by omega)) hl.out).mono ?_
      rintro e w2 ⟨rfl, hl2, ho2⟩
      have hb2 := one_old hbw.out ho2 (Nat.le_refl _) hbw.out.size
      have hm2 := Lib.hid (hm.out.one ho2 (by omega))
      have hl2 := Lib.hid hl2
      clear ho2 x1 y1 hm hl hbw
      have x1 := cA.out _ hb2
      have hb2 := Lib.hid hb2
      go_wp2_with fail
      refine (s2.out _).mono ?_
      rintro e w1 ⟨rfl, rfl⟩
      go_wp2_with fail
      refine (sent_to _ _ S u1 (S + u1) 0 true _ (Amp.sentE_ok (by omega) (by omega) (by rw [Amp.left_true]; omega)) (Amp.sentS_ok (by omega) (by omega) (by rw [Amp.left_true]; omega) (by omega) (by omega)) hl2.out).mono ?_
      rintro e w3 ⟨rfl, hl3, ho3⟩
      have hb3 := one_old hb2.out ho3 (Nat.le_refl _) hb2.out.size
      have hm3 := Lib.hid (hm2.out.one ho3 (by omega))
      have hl3 := Lib.hid hl3
      clear ho3 x1 hb2 hl2 hm2
      have y1 := cB.out _ hb3
      have hb3 := Lib.hid hb3
      go_wp2_with fail
      refine (s4.out _).mono ?_
      rintro e w1 ⟨rfl, rfl⟩
      go_wp2_with fail
      refine (sent_to _ _ S' v1 (S' + v1) 0 true _ (Amp.sentE_ok (by omega) (by omega) (by rw [Amp.left_true]; omega)) (Amp.sentS_ok (by omega) (by omega) (by rw [Amp.left_true]; omega) (by omega) (by omega)) hm3.out).mono ?_
      rintro e w4 ⟨rfl, hm4, ho4⟩
      have hb4 := one_old hb3.out ho4 (by omega) hb3.out.size
      have hl4 := Lib.hid (hl3.out.one ho4 (by omega))
      have hm4 := Lib.hid hm4
      clear ho4 y1 hb3 hl3 hm3
      have y1 := cB.out _ hb4
      have hb4 := Lib.hid hb4
      go_wp2_with fail
      refine (s3.out _).mono ?_
      rintro e w1 ⟨rfl, rfl⟩
      go_wp2_with fail
      refine (got_to _ G' _ v (G' + v) 0 true _ (Amp.gotE_ok (by omega) (by omega)) (Amp.gotG_ok (by omega) (by omega) (by omega) (by omega)) hm4.out).mono ?_
      rintro e w5 ⟨rfl, hm5, ho5⟩
      have hb5 := Lib.hid (one_old hb4.out ho5 (by omega) hb4.out.size)
      have hl5 := Lib.hid (hl4.out.one ho5 (by omega))
      have hm5 := Lib.hid hm5
      clear ho5 y1 hb4 hl4 hm4
      go_wp2_with fail
      go_roundw
      case rel =>
        obtain ⟨F1, F2, F3, F4⟩ := F.out
        exact ⟨k + 1, by go_num, by omega, by rw [F1, F2]; exact hl5.out, by rw [F3, F4]; exact hm5.out, hb5.out⟩
      case measure => simp [intOf]; omega
    · have hkN : k = N := by omega
      subst hkN
      have r1 := Amp.tot_rev (fun j => Amp.up (f j 0)) k
      have r2 := Amp.tot_rev (fun j => Amp.third (f j 0)) k
      have hm : Hid _ := Lib.hid (r1 ▸ r2 ▸ hm.out)
      clear r1 r2
      generalize Amp.tot (fun j => Amp.up (f j 0)) k = G at *
      generalize Amp.tot (fun j => Amp.third (f j 0)) k = S at *
      go_wp2_with fail
      refine (totals_any _ _ _ _ _ hl.out).mono ?_
      rintro e w1 ⟨rfl, hb1⟩
      have hm1 := Lib.hid (hm.out.later hb1)
      have hb1 := Lib.hid (old_later hbw.out hb1 hbw.out.size)
      go_wp2_with fail
      refine (totals_any _ _ _ _ _ hm1.out).mono ?_
      rintro e w2 ⟨rfl, hb2⟩
      have hb2 := Lib.hid (old_later hb1.out hb2 hb1.out.size)
      go_wp2_with fail
      refine (works_any _).mono ?_
      rintro e w4 ⟨rfl, hb4⟩
      have hb4 := Lib.hid (old_later hb2.out hb4 hb2.out.size)
      go_wp2_with fail
      go_ret
      exact ⟨rfl, hb4.out⟩
end Go.Proofs.Ythlpjpcmbpbplaa
