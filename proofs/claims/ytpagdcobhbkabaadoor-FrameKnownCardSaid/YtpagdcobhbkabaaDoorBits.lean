/-
  math/bits.Div64: the quotient and the remainder of a number of 128 bits by one of 64 bits.
  Conditions: the divisor is greater than the high word (else the call panics); the world is as it was.
-/
import Derived.Test.YtpagdcobhbkabaaDoorKit
import Derived.Test.YtpagdcobhbkabaaDoorBitsA
import Derived.Test.YtpagdcobhbkabaaDoorShelf
namespace Go.Proofs.YtpagdcobhbkabaaDoor
open Go.RowKit Go.Sort

theorem lz_any (y s : Int) (hy : 0 ≤ y ∧ y ≤ 18446744073709551615) (hs : (64 : Int) - (Lib.bitLen y.toNat : Int) = s) (w : World) :
    Calls Tryd.prog 79 #[.int .u64 y] w fun e w' => e = .returned (.int .i64 s) ∧ w = w' := by
  refine (Tryd.bits_LeadingZeros64 _ _ hy.1 hy.2).mono ?_
  rintro e w1 ⟨rfl, rfl⟩
  rw [hs]
  exact ⟨rfl, rfl⟩

set_option maxRecDepth 100000 in
set_option maxHeartbeats 1000000 in
theorem div64_core (hi lo y : Int) (s : Nat) (Y Y1 Y0 U H Lh Lw L1 L0 q0 r0 p0 : Int) (hh : hi < y) (h1 : (y == 0) = false) (h3 : (hi == 0) = false) (hz : ¬ Y1 = 0)
    (hs : s ≤ 63) (HL : Hid ((0 ≤ y ∧ y ≤ 18446744073709551615) ∧ (64 : Int) - (Lib.bitLen y.toNat : Int) = (s : Int)))
    (hm : min s 64 = s) (_hm2 : min (64 - s) 64 = 64 - s) (e1 : IntKind.u64.wrap (y * 2 ^ s) = Y) (e2 : Y / 4294967296 = Y1) (e3 : bits .and .u64 Y 4294967295 = Y0)
    (e4 : IntKind.u64.wrap (hi * 2 ^ s) = H) (e5 : lo / 2 ^ (64 - s) = Lh) (e6 : bits .or .u64 H Lh = U)
    (e7 : IntKind.u64.wrap (lo * 2 ^ s) = Lw) (e8 : Lw / 4294967296 = L1) (e9 : bits .and .u64 Lw 4294967295 = L0)
    (HB : Hid (Bnd Y1 Y0 U L1))
    (e10 : IntKind.u64.wrap (U.tdiv Y1) = q0) (e11 : IntKind.u64.wrap (q0 * Y1) = p0) (e12 : IntKind.u64.wrap (U - p0) = r0) (HI : Hid (InvI Y1 Y0 U L1 q0 r0))
    (A B : Int) (HN : Hid (Second s Y Y1 Y0 U L1 L0 A B)) (w : World) :
    Calls Tryd.prog 76 #[.int .u64 hi, .int .u64 lo, .int .u64 y] w fun e w' => e = .returned (.tuple #[.int .u64 A, .int .u64 B]) ∧ ∃ m, w' = w.drewN m := by
  go_enter Tryd.func76, Tryd.ntmps76
  go_upto_block 0 with (go_at_call 79; refine (lz_any _ _ HL.out.1 HL.out.2 _).mono ?_; rintro e w1 ⟨rfl, rfl⟩)
  go_cut [15, 16] (fun a b wx => ∃ q r : Int, a = .int .u64 q ∧ b = .int .u64 r ∧ w = wx ∧ DigI Y1 Y0 U L1 q)
  case first =>
    go_wp2_with fail
    go_loop [15, 16] (fun a b => ∃ q r : Int, a = .int .u64 q ∧ b = .int .u64 r ∧ InvI Y1 Y0 U L1 q r) (fun a _ => (intOf a).toNat)
    case atStart => exact ⟨q0, r0, rfl, rfl, HI.out⟩
    case round =>
      obtain ⟨q, r, rfl, rfl, hq⟩ := hrel
      clear e1 e2 e3 e4 e5 e6 e7 e8 e9 e10 e11 e12 hm _hm2 hh h1 h3 hz
      have bY1 : Y1 < 4294967296 := HB.out.2.1
      have bY0 : 0 < Y1 := HB.out.1
      have bL1 : L1 < 4294967296 := HB.out.2.2.2.2.2.1
      have bL0 : 0 ≤ L1 := HB.out.2.2.2.2.1
      have hb : r < 4294967296 := by have := hq.2.2.2.2.2; omega
      have hb0 : 0 ≤ r := hq.2.1
      obtain ⟨P, m1, hlt, hle, hd⟩ | ⟨p, rfl, p0, p1, ht, hn⟩ := inv_waysI HB.out hq
      · have HQ := Lib.hid hq
        have HD := Lib.hid hd
        clear hq hd
        go_wp2
        go_meet
        exact ⟨q, r, rfl, rfl, rfl, HD.out⟩
      · have HQ := Lib.hid hq
        clear hq
        obtain ⟨hlt, hI2⟩ | ⟨hge, hd⟩ := hn
        · have HI2 := Lib.hid hI2
          clear hI2
          obtain hbig | ⟨P, m1, hsm, hgt⟩ := ht
          · go_wp2
            go_round
            case rel => exact ⟨p, r + Y1, by go_num, by go_num, HI2.out⟩
            case measure => simp [intOf]; omega
          · go_wp2
            go_round
            case rel => exact ⟨p, r + Y1, by go_num, by go_num, HI2.out⟩
            case measure => simp [intOf]; omega
        · have HD := Lib.hid hd
          clear hd
          obtain hbig | ⟨P, m1, hsm, hgt⟩ := ht
          · go_wp2
            go_meet
            exact ⟨p, r + Y1, by go_num, by go_num, rfl, HD.out⟩
          · go_wp2
            go_meet
            exact ⟨p, r + Y1, by go_num, by go_num, rfl, HD.out⟩
  case rest =>
    obtain ⟨q, r, rfl, rfl, rfl, hd⟩ := hcut
    obtain ⟨T1, T2, T3, R, q0', p0', r0', Q, f1, f2, f3, f4, f5, f6, f7, hi', hb', f8, hn'⟩ := HN.out q hd
    have HI' := Lib.hid hi'
    have HB' := Lib.hid hb'
    have HN' := Lib.hid hn'
    have HD := Lib.hid hd
    clear hi' hb' hn' hd
    clear e1 e2 e3 e4 e5 e6 e7 e8 e9 e10 e11 e12
    go_upto_block 2 with fail
    go_cut [18, 16] (fun a b wx => ∃ q r : Int, a = .int .u64 q ∧ b = .int .u64 r ∧ w = wx ∧ DigI Y1 Y0 R L0 q)
    case first =>
      go_wp2_with fail
      go_loop [18, 16] (fun a b => ∃ q r : Int, a = .int .u64 q ∧ b = .int .u64 r ∧ InvI Y1 Y0 R L0 q r) (fun a _ => (intOf a).toNat)
      case atStart => exact ⟨q0', r0', rfl, rfl, HI'.out⟩
      case round =>
        obtain ⟨q, r, rfl, rfl, hq⟩ := hrel
        clear hm _hm2 hh h1 h3 hz f1 f2 f3 f4 f5 f6 f7 f8
        have bY1 : Y1 < 4294967296 := HB'.out.2.1
        have bY0 : 0 < Y1 := HB'.out.1
        have bL0 : L0 < 4294967296 := HB'.out.2.2.2.2.2.1
        have bL0 : 0 ≤ L0 := HB'.out.2.2.2.2.1
        have hb : r < 4294967296 := by have := hq.2.2.2.2.2; omega
        have hb0 : 0 ≤ r := hq.2.1
        obtain ⟨P, m1, hlt, hle, hd⟩ | ⟨p, rfl, p0, p1, ht, hn⟩ := inv_waysI HB'.out hq
        · have HQ := Lib.hid hq
          have HD := Lib.hid hd
          clear hq hd
          go_wp2
          go_meet
          exact ⟨q, r, rfl, rfl, rfl, HD.out⟩
        · have HQ := Lib.hid hq
          clear hq
          obtain ⟨hlt, hI2⟩ | ⟨hge, hd⟩ := hn
          · have HI2 := Lib.hid hI2
            clear hI2
            obtain hbig | ⟨P, m1, hsm, hgt⟩ := ht
            · go_wp2
              go_round
              case rel => exact ⟨p, r + Y1, by go_num, by go_num, HI2.out⟩
              case measure => simp [intOf]; omega
            · go_wp2
              go_round
              case rel => exact ⟨p, r + Y1, by go_num, by go_num, HI2.out⟩
              case measure => simp [intOf]; omega
          · have HD := Lib.hid hd
            clear hd
            obtain hbig | ⟨P, m1, hsm, hgt⟩ := ht
            · go_wp2
              go_meet
              exact ⟨p, r + Y1, by go_num, by go_num, rfl, HD.out⟩
            · go_wp2
              go_meet
              exact ⟨p, r + Y1, by go_num, by go_num, rfl, HD.out⟩

    case rest =>
      obtain ⟨q2, r2, rfl, rfl, rfl, hd2⟩ := hcut
      obtain ⟨T4, T5, T6, R2, g1, g2, g3, g4, g5, g6⟩ := HN'.out q2 hd2
      clear hd2
      go_wp2
      go_ret2
      exact ⟨rfl, 0, rfl⟩

theorem div64_any (hi lo y : Nat) (hlo : lo < 18446744073709551616) (hy : y < 18446744073709551616) (hp : 0 < hi) (hh : hi < y) (w : World) :
    Calls Tryd.prog 76 #[.int .u64 hi, .int .u64 lo, .int .u64 y] w fun e w' => e = .returned (.tuple #[.int .u64 (((hi * 18446744073709551616 + lo) / y : Nat) : Int), .int .u64 (((hi * 18446744073709551616 + lo) % y : Nat) : Int)]) ∧ ∃ m, w' = w.drewN m := by
  obtain ⟨s, Y, Y1, Y0, U, H, Lh, Lw, L1, L0, q0, r0, p0, hz, hs, hl, e1, e2, e3, e4, e5, e6, e7, e8, e9, hb, s1, s2, s3, hI, hS⟩ := asks hi lo y hlo hy hh
  exact div64_core hi lo y s Y Y1 Y0 U H Lh Lw L1 L0 q0 r0 p0 (by omega) (by simp; omega) (by simp; omega) hz hs ⟨⟨by omega, by omega⟩, by simpa using hl⟩ (by omega) (by omega) e1 e2 e3 e4 e5 e6 e7 e8 e9 hb s1 s2 s3 hI _ _ hS w

set_option maxRecDepth 100000 in
theorem div64_zero (lo y : Int) (h1 : 0 < y) (h2 : 0 ≤ lo) (hq : IntKind.u64.wrap (lo.tdiv y) = lo / y) (w : World) :
    Calls Tryd.prog 76 #[.int .u64 0, .int .u64 lo, .int .u64 y] w fun e w' => e = .returned (.tuple #[.int .u64 (lo / y), .int .u64 (lo % y)]) ∧ ∃ m, w' = w.drewN m := by
  have h3 : (y == 0) = false := by simp; omega
  go_enter Tryd.func76, Tryd.ntmps76
  go_wp2
  go_quiet (fail)
  go_wp2
  go_ret2
  exact ⟨rfl, _, rfl⟩

end Go.Proofs.YtpagdcobhbkabaaDoor
