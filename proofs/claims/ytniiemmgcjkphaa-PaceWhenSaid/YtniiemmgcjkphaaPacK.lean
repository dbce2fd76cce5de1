/-
  Layer 14: sounderlaw14.play.
-/
import Derived.Test.YtniiemmgcjkphaaPacJ
import Derived.Test.YtniiemmgcjkphaaPacE
import Derived.BigQuiet
import Derived.Test.YtniiemmgcjkphaaPacL
namespace Go.Proofs.Ytniiemmgcjkphaa
open Go.RowKit Go.Sort

def encP (p : Pac.Pc) : List Value := [.int .i64 p.f, .int .i64 p.num, .int .i64 p.den]
def encG (g : Int × Int) : List Value := [.int .i64 g.1, .int .i64 g.2]
theorem piece_info : (Try.prog.info? 115).map (fun i => (i.zero, i.size, i.bytes)) = some (some (.agg #[.int .i64 0, .int .i64 0, .int .i64 0]), 3, 24) := by kernel_rfl
theorem gone_info : (Try.prog.info? 82).map (fun i => (i.zero, i.size, i.bytes)) = some (some (.agg #[.int .i64 0, .int .i64 0]), 2, 16) := by kernel_rfl
theorem one_p (p : Pac.Pc) : ∀ u ∈ encP p, u.oneCell' = true := fun u hu => by
  simp only [encP, List.mem_cons, List.not_mem_nil, or_false] at hu
  rcases hu with rfl | rfl | rfl <;> rfl
theorem one_g (g : Int × Int) : ∀ u ∈ encG g, u.oneCell' = true := fun u hu => by
  simp only [encG, List.mem_cons, List.not_mem_nil, or_false] at hu
  rcases hu with rfl | rfl <;> rfl
/-- The time ahead of the j-th step. -/
def tsum (f : Nat → Nat → Int) : Nat → Int
  | 0 => 0
  | j + 1 => tsum f j + f j 0 % 1073741824
theorem tsum_bd (f : Nat → Nat → Int) : ∀ j, 0 ≤ tsum f j ∧ tsum f j ≤ 1073741824 * (j : Int)
  | 0 => by simp [tsum]
  | j + 1 => by
    have ih := tsum_bd f j
    have h0 := Int.emod_nonneg (f j 0) (show (1073741824 : Int) ≠ 0 by omega)
    have h1 := Int.emod_lt_of_pos (f j 0) (show (0 : Int) < 1073741824 by omega)
    show 0 ≤ tsum f j + f j 0 % 1073741824 ∧ tsum f j + f j 0 % 1073741824 ≤ 1073741824 * ((j + 1 : Nat) : Int)
    omega

/-- What play leaves. -/
def Plays (w : World) (p b : Nat) (B : Int) (f : Nat → Nat → Int) (m : Nat) (e : Ending) (w' : World) : Prop :=
  ∃ (v1 v2 : Value) (b' : Nat) (s : Pac.St) (l : List Pac.Pc) (pc : Pac.Pc) (gs : List (Int × Int)), e = .returned (.tuple #[v1, v2, .bool true]) ∧ OwnE encP 115 3 w' w.heap.size v1 (l ++ [pc]) ∧ OwnE encG 82 2 w' w.heap.size v2 gs ∧
    (b' = b ∨ w.heap.size ≤ b') ∧ Pk w' p b' s ∧ Pac.PInv B (tsum f m) s l pc gs ∧ (l.length ≤ m ∧ gs.length ≤ m) ∧ Pac.Bd (l ++ [pc]) gs ∧ Only (fun k => k = p ∨ k = b) w w'

set_option maxHeartbeats 4000000 in
set_option maxRecDepth 100000 in
theorem play_any (B : Int) (p b : Nat) (A : Option Addr) (n c : Nat) (f : Nat → Nat → Int) (w0 w : World) (hn : n ≤ 9223372036854775807) (hr : Rd w0 A 4 n f) (h0 : Below w0.heap.size w0 w) (hp : w0.heap.size ≤ p) (hpb : w0.heap.size ≤ b) (hk : Pk w p b (Pac.start B 0)) (hB : Bkt.newOk B 0 = true) :
    Calls Try.prog 42 #[.pointer (some ⟨p, 0, none⟩), .slice A n c] w (Plays w p b B f (min n 40)) := by
  have HR := Lib.hid hr
  clear hr
  have hI0 := Lib.hid (Pac.pinv_start (T := 0) hB (Int.le_refl 0))
  obtain ⟨m, hm⟩ : ∃ m : Nat, min n 40 = m := ⟨_, rfl⟩
  rw [hm]
  have hmn : m ≤ n := by omega
  have hm40 : m ≤ 40 := by omega
  have hpl : p < w.heap.size := hk.p.lt
  replace hm := Lib.hid hm
  replace hk := Lib.hid hk
  go_enter Try.func42, Try.ntmps42
  go_wp2_with fail
  have hb := laterA (Below.refl w.heap.size w) (.cells #[.int .i64 0, .int .i64 0, .int .i64 1] 115)
  have hk1 := hk.out.kept hb
  have own1 : OwnE encP 115 3 (w.alloc (.cells #[.int .i64 0, .int .i64 0, .int .i64 1] 115)) w.heap.size (.slice (some ⟨w.heap.size, 0, none⟩) 1 1) ([] ++ [⟨0, 0, 1⟩]) :=
    World.ownsRow_lit w #[.int .i64 0, .int .i64 0, .int .i64 1] 1 (Nat.le_refl _) (by unfold maxLen; omega) rfl
  have ho := Only.of_below (F := fun k => k = p ∨ k = b) hb
  generalize w.alloc _ = W at *
  replace hk1 := Lib.hid hk1
  replace own1 := Lib.hid own1
  replace ho := Lib.hid ho
  clear hb
  go_loopw [7, 8, 9, 10] (fun v1 v2 t i wr => ∃ (j b' : Nat) (s : Pac.St) (l : List Pac.Pc) (pc : Pac.Pc) (gs : List (Int × Int)), t = .int .i64 (tsum f j) ∧ i = .int .i64 j ∧ j ≤ m ∧ OwnE encP 115 3 wr w.heap.size v1 (l ++ [pc]) ∧ OwnE encG 82 2 wr w.heap.size v2 gs ∧
    (b' = b ∨ w.heap.size ≤ b') ∧ Pk wr p b' s ∧ Pac.PInv B (tsum f j) s l pc gs ∧ (l.length ≤ j ∧ gs.length ≤ j) ∧ Pac.Bd (l ++ [pc]) gs ∧ Only (fun k => k = p ∨ k = b) w wr) (fun _ _ _ i _ => m - (intOf i).toNat)
  case atStart => exact ⟨0, b, _, [], ⟨0, 0, 1⟩, [], rfl, rfl, by omega, own1.out, World.ownsRow_nil _ _ _ _, .inl rfl, hk1.out, hI0.out, ⟨by simp, by simp⟩, Pac.bd_start, ho.out⟩
  case round =>
    clear hk1 own1 ho hI0
    obtain ⟨j, b', s, l, pc, gs, rfl, rfl, hj, own1, own2, hbb, hk, hI, ⟨hl1, hl2⟩, hBd, ho⟩ := hrel
    have hbd := tsum_bd f j
    have hbd1 := tsum_bd f (j + 1)
    replace own1 := Lib.hid own1
    replace own2 := Lib.hid own2
    replace hk := Lib.hid hk
    replace hI := Lib.hid hI
    replace hBd := Lib.hid hBd
    replace ho := Lib.hid ho
    have hm' := hm.out
    by_cases hlt : j < m
    · have hlt2 : j < n := by omega
      have h40 : j < 40 := by omega
      clear hm'
      obtain ⟨ba, off, rfl, hca⟩ := HR.out.at4 hlt2
      have hA := Lib.hid (bring_same (f j 0) 1073741824 (by omega) (by omega))
      have hC := Lib.hid (bring_same (f j 2) 1048576 (by omega) (by omega))
      have hD := Lib.hid (bring_same (f j 3) 1073741824 (by omega) (by omega))
      have hE := Lib.hid (bring_same (f j 1) 3000 (by omega) (by omega))
      have eT : tsum f (j + 1) = tsum f j + f j 0 % 1073741824 := rfl
      rw [eT] at hbd1
      have d0 := Int.emod_nonneg (f j 0) (show (1073741824 : Int) ≠ 0 by omega)
      have cw0 := Int.emod_nonneg (f j 2) (show (1048576 : Int) ≠ 0 by omega)
      have cw1 := Int.emod_lt_of_pos (f j 2) (show (0 : Int) < 1048576 by omega)
      have sm0 := Int.emod_nonneg (f j 3) (show (1073741824 : Int) ≠ 0 by omega)
      have sm1 := Int.emod_lt_of_pos (f j 3) (show (0 : Int) < 1073741824 by omega)
      have sz0 := Int.emod_nonneg (f j 1) (show (3000 : Int) ≠ 0 by omega)
      have sz1 := Int.emod_lt_of_pos (f j 1) (show (0 : Int) < 3000 by omega)
      have hle : tsum f j ≤ tsum f j + f j 0 % 1073741824 := by omega
      replace eT := Lib.hid eT
      generalize f j 0 % 1073741824 = d at *
      generalize hTj : tsum f j = T at *
      replace hTj := Lib.hid hTj
      have hx := fun wx h => hca wx h
      replace hca := Lib.hid hca
      clear hx
      obtain ⟨y0, y1, y2, y3⟩ := hca.out _ (only_old h0 ho.out (by rintro k (rfl | rfl); exact hp; exact hpb) h0.size)
      have hs0 := ho.out.size
      have hwT : IntKind.i64.wrap (T + d) = T + d := IntWalk.i64_in _ (by omega)
      have hT1 : T + d ≤ 9007199254740991 := by omega
      obtain ⟨r1, hr1⟩ : ∃ r, f j 1 % 3000 = r := ⟨_, rfl⟩
      rw [hr1] at sz0 sz1 hE
      obtain ⟨k, hk0⟩ : ∃ k, 1 + r1 = k := ⟨_, rfl⟩
      have hwk : IntKind.i64.wrap (1 + r1) = k := by rw [IntWalk.i64_in _ (by omega)]; exact hk0
      have hk1 : 1 ≤ k := by omega
      have hk2 : k ≤ 65535 := by omega
      have hk3 : k ≤ 3000 := by omega
      have hTd0 : 0 ≤ T + d := by omega
      have hwj : IntKind.i64.wrap ((j : Int) + 1) = (j : Int) + 1 := IntWalk.i64_in _ (by omega)
      clear hk0 sz0 sz1 hr1
      by_cases hodd : (f j 2).tmod 2 = 0
      · have hod : ((f j 2).tmod 2 != 0) = false := by simp [hodd]
        clear cw0 cw1 sm0 sm1
        replace hI := Lib.hid (Pac.pinv_later hI.out hle)
        clear hbd hbd1
        go_wp2_with fail
        with_reducible refine (hA.out _).mono ?_
        rintro e w3 ⟨rfl, rfl⟩
        clear y0 y1 y2 y3
        obtain ⟨y0, y1, y2, y3⟩ := hca.out _ (only_old h0 ho.out (by rintro k (rfl | rfl); exact hp; exact hpb) h0.size)
        go_wp2_with fail
        with_reducible refine (hE.out _).mono ?_
        rintro e w4 ⟨rfl, rfl⟩
        rcases Pac.pl_send hI.out (Int.le_refl _) hT1 hk1 hk2 with ⟨hsE, hI6⟩ | ⟨hsE, hsS, hI6⟩
        · have hC := pcan_any p b' s (T + d) k wr hk.out hI.out.wf
          rw [hsE] at hC
          have hS := fun W' h => psend_any p b' s (T + d) k W' h hI.out.wf
          simp only [hsE] at hS
          replace hsE := Lib.hid hsE
          replace hI6 := Lib.hid hI6
          replace hS := Lib.hid hS
          go_wp2_with fail
          with_reducible refine hC.mono ?_
          clear hC
          rintro e w5 ⟨rfl, hb5⟩
          have hk5 := hk.out.kept hb5
          have o1 := Lib.hid (own1.out.later hb5)
          have o2 := Lib.hid (own2.out.later hb5)
          have ho5 := Lib.hid (ho.out.late hb5)
          have hs5 := hb5.size
          clear hb5 y0 y1 y2 y3
          go_wp2_with fail
          with_reducible refine (hS.out w5 hk5).mono ?_
          rintro e w6 ⟨rfl, b6, hb6, hk6, hg6⟩
          replace o1 := Lib.hid (o1.out.p1 hg6 hpl)
          replace o2 := Lib.hid (o2.out.p1 hg6 hpl)
          replace ho5 := Lib.hid (ho5.out.trans (Only.of_grown hg6 (.inl rfl)))
          have hbb6 : b6 = b ∨ w.heap.size ≤ b6 := by omega
          have hs6 := hg6.size
          clear hg6 hk5 hS
          have hx7 := Blk.new w6 82 #[.int .i64 (T + d), .int .i64 k]
          have hb7 := laterA (Below.refl w6.heap.size w6) (.cells #[.int .i64 (T + d), .int .i64 k] 82)
          have o17 := o1.out.later hb7
          have o27 := o2.out.later hb7
          have hk7 := hk6.kept hb7
          have ho7 := ho5.out.late hb7
          replace hk6 := Lib.hid hk6
          replace hk7 := Lib.hid hk7
          replace ho7 := Lib.hid ho7
          replace hb7 := Lib.hid hb7
          clear o1 o2 ho5
          go_wp2_with (at_builtin; refine wpList_own (enc := encG) (e := 82) (size := 2) (B := w.heap.size) (l := gs) rfl _ _ 78 rfl Try.underlying78 gone_info rfl (by omega) (by omega) w6.heap.size (T + d, k) rfl rfl o27 hx7 rfl (one_g _) (Nat.le_trans (show w.heap.size ≤ w6.heap.size by omega) hb7.out.size) (by omega) ?_)
          intro v2' w8 o28 hg8 _
          have o18 := Lib.hid (o17.grown hg8 (o17.apart o27 (by decide)))
          have hk8 := Lib.hid (pk_row hk7.out o27 hg8 (by decide) (by decide))
          have ho8 := Lib.hid (ho7.out.row_ hg8 (fun g hg => (o27.low g hg).1))
          replace o28 := Lib.hid o28
          clear hg8 o17 o27 hk7 ho7 hx7 hb7 hk6
          go_wp2_with fail
          refine ⟨⟨j + 1, b6, _, l, pc, gs ++ [(T + d, k)], by rw [eT.out], by simp, by omega, o18.out, o28.out, hbb6, hk8.out, by rw [eT.out]; exact hI6.out, ⟨by (try simp); omega, by (try simp); omega⟩, hBd.out.gone hTd0 hk1 hk3, ho8.out⟩, ?_⟩
          simp only [intOf]
          omega
        · have hC := pcan_any p b' s (T + d) k wr hk.out hI.out.wf
          rw [hsE] at hC
          have hS := fun W' h => psend_any p b' s (T + d) k W' h hI.out.wf
          simp only [hsE, hsS] at hS
          replace hsE := Lib.hid hsE
          replace hI6 := Lib.hid hI6
          replace hS := Lib.hid hS
          go_wp2_with fail
          with_reducible refine hC.mono ?_
          clear hC
          rintro e w5 ⟨rfl, hb5⟩
          have hk5 := hk.out.kept hb5
          have o1 := Lib.hid (own1.out.later hb5)
          have o2 := Lib.hid (own2.out.later hb5)
          have ho5 := Lib.hid (ho.out.late hb5)
          have hs5 := hb5.size
          clear hb5 y0 y1 y2 y3
          go_wp2_with fail
          with_reducible refine (hS.out w5 hk5).mono ?_
          rintro e w6 ⟨rfl, b6, hb6, hk6, hg6⟩
          replace o1 := Lib.hid (o1.out.p1 hg6 hpl)
          replace o2 := Lib.hid (o2.out.p1 hg6 hpl)
          replace ho5 := Lib.hid (ho5.out.trans (Only.of_grown hg6 (.inl rfl)))
          have hbb6 : b6 = b ∨ w.heap.size ≤ b6 := by omega
          have hs6 := hg6.size
          clear hg6 hk5 hS
          replace hk6 := Lib.hid hk6
          go_wp2_with fail
          refine ⟨⟨j + 1, b6, _, l, pc, gs, by rw [eT.out], by simp, by omega, o1.out, o2.out, hbb6, hk6.out, by rw [eT.out]; exact hI6.out, ⟨by (try simp); omega, by omega⟩, hBd.out, ho5.out⟩, ?_⟩
          simp only [intOf]
          omega
      · have hod : ((f j 2).tmod 2 != 0) = true := by simpa using hodd
        obtain ⟨r2, hr2⟩ : ∃ r, f j 2 % 1048576 = r := ⟨_, rfl⟩
        obtain ⟨sm, hr3⟩ : ∃ r, f j 3 % 1073741824 = r := ⟨_, rfl⟩
        rw [hr2] at cw0 cw1 hC
        rw [hr3] at sm0 sm1 hD
        obtain ⟨cw, hcw⟩ : ∃ k, 1 + r2 = k := ⟨_, rfl⟩
        have hwc : IntKind.i64.wrap (1 + r2) = cw := by rw [IntWalk.i64_in _ (by omega)]; exact hcw
        obtain ⟨hsE, hI5⟩ := Pac.pl_set (cw := cw) (sm := sm) hI.out hle hT1 (by omega) (by omega) (by omega) (by omega)
        have hw5 : IntKind.i64.wrap (5 * cw) = 5 * cw := IntWalk.i64_in _ (by omega)
        have hw4 : IntKind.i64.wrap (4 * sm) = 4 * sm := IntWalk.i64_in _ (by omega)
        obtain ⟨D, hDD⟩ : ∃ D, max 1 (4 * sm) = D := ⟨_, rfl⟩
        have hDD2 : Pac.den4 sm = D := by rw [← hDD]; unfold Pac.den4; omega
        rw [hDD2] at hI5
        replace hBd := Lib.hid (hBd.out.piece (x := ⟨T + d, 5 * cw, D⟩) hTd0 (show 5 * cw ≤ 5242880 by omega) (show D ≤ 4294967296 by omega))
        clear hcw cw0 cw1 sm0 sm1 hr2 hr3 hbd hbd1 hDD2
        replace hI5 := Lib.hid hI5
        have hSet := fun W h => pset_any p b' s (T + d) cw sm W h hI.out.wf
        simp only [hsE] at hSet
        generalize Pac.set s (T + d) cw sm = S2 at *
        replace hSet := Lib.hid hSet
        replace hsE := Lib.hid hsE
        go_wp2_with fail
        with_reducible refine (hA.out _).mono ?_
        rintro e w3 ⟨rfl, rfl⟩
        go_wp2_with fail
        go_quiet (first | (go_at_call 16; with_reducible exact quiet_left (hC.out _)) | (go_at_call 16; with_reducible exact quiet_left (hD.out _)))
        have hkD := hk.out.drewN nq
        have o1D := own1.out.later (laterDN (Below.refl _ _) nq)
        have o2D := own2.out.later (laterDN (Below.refl _ _) nq)
        have hoD := ho.out.late (laterDN (Below.refl _ _) nq)
        replace o1D := Lib.hid o1D
        replace o2D := Lib.hid o2D
        replace hoD := Lib.hid hoD
        clear y0 y1 y2 y3
        go_wp2_with fail
        with_reducible refine (hSet.out _ hkD).mono ?_
        rintro e w5 ⟨rfl, hk5, ho5⟩
        have o15 := own_set o1D.out hkD ho5 (by decide) (by decide)
        have o25 := own_set o2D.out hkD ho5 (by decide) (by decide)
        have ho5' := hoD.out.more ho5 (by rintro i (rfl | rfl); exact .inl (.inl rfl); rcases hbb with h | h; exact .inl (.inr h); exact .inr h)
        have hs5 := ho5'.size
        have hx7 := Blk.new w5 115 #[.int .i64 (T + d), .int .i64 (5 * cw), .int .i64 D]
        have hb7 := laterA (Below.refl w5.heap.size w5) (.cells #[.int .i64 (T + d), .int .i64 (5 * cw), .int .i64 D] 115)
        have o17 := o15.later hb7
        have o27 := o25.later hb7
        have hk7 := hk5.kept hb7
        have ho7 := ho5'.late hb7
        replace hk7 := Lib.hid hk7
        replace ho7 := Lib.hid ho7
        replace hb7 := Lib.hid hb7
        clear hkD o1D o2D hoD hk5 ho5 ho5' o15 o25
        clear own1 own2 hk ho hI
        go_wp2_with (at_builtin; refine wpList_own (enc := encP) (e := 115) (size := 3) (B := w.heap.size) (l := l ++ [pc]) rfl _ _ 77 rfl Try.underlying77 piece_info rfl (by omega) (by omega) w5.heap.size ⟨T + d, 5 * cw, D⟩ rfl rfl o17 hx7 rfl (one_p _) (Nat.le_trans hs5 hb7.out.size) (by simp; omega) ?_)
        intro v1' w8 o18 hg8 _
        have own1 := Lib.hid (show OwnE encP 115 3 w8 w.heap.size v1' (l ++ [pc] ++ [⟨T + d, 5 * cw, D⟩]) by simpa using o18)
        have own2 := Lib.hid (o27.grown hg8 (o27.apart o17 (by decide)))
        have hk := Lib.hid (pk_row hk7.out o17 hg8 (by decide) (by decide))
        have ho := Lib.hid (ho7.out.row_ hg8 (fun g hg => (o17.low g hg).1))
        have hI := hI5
        have hs0 := ho.out.size
        clear hg8 o17 o27 o18 hk7 ho7 hx7 hb7 hI5 hs5
        obtain ⟨y0, y1, y2, y3⟩ := hca.out _ (only_old h0 ho.out (by rintro k (rfl | rfl); exact hp; exact hpb) h0.size)
        go_wp2_with fail
        with_reducible refine (hE.out _).mono ?_
        rintro e w4 ⟨rfl, rfl⟩
        rcases Pac.pl_send hI.out (Int.le_refl _) hT1 hk1 hk2 with ⟨hsE, hI6⟩ | ⟨hsE, hsS, hI6⟩
        · have hC := pcan_any p b' S2 (T + d) k w8 hk.out hI.out.wf
          rw [hsE] at hC
          have hS := fun W' h => psend_any p b' S2 (T + d) k W' h hI.out.wf
          simp only [hsE] at hS
          replace hsE := Lib.hid hsE
          replace hI6 := Lib.hid hI6
          replace hS := Lib.hid hS
          go_wp2_with fail
          with_reducible refine hC.mono ?_
          clear hC
          rintro e w5 ⟨rfl, hb5⟩
          have hk5 := hk.out.kept hb5
          have o1 := Lib.hid (own1.out.later hb5)
          have o2 := Lib.hid (own2.out.later hb5)
          have ho5 := Lib.hid (ho.out.late hb5)
          have hs5 := hb5.size
          clear hb5 y0 y1 y2 y3
          go_wp2_with fail
          with_reducible refine (hS.out w5 hk5).mono ?_
          rintro e w6 ⟨rfl, b6, hb6, hk6, hg6⟩
          replace o1 := Lib.hid (o1.out.p1 hg6 hpl)
          replace o2 := Lib.hid (o2.out.p1 hg6 hpl)
          replace ho5 := Lib.hid (ho5.out.trans (Only.of_grown hg6 (.inl rfl)))
          have hbb6 : b6 = b ∨ w.heap.size ≤ b6 := by omega
          have hs6 := hg6.size
          clear hg6 hk5 hS
          have hx7 := Blk.new w6 82 #[.int .i64 (T + d), .int .i64 k]
          have hb7 := laterA (Below.refl w6.heap.size w6) (.cells #[.int .i64 (T + d), .int .i64 k] 82)
          have o17 := o1.out.later hb7
          have o27 := o2.out.later hb7
          have hk7 := hk6.kept hb7
          have ho7 := ho5.out.late hb7
          replace hk6 := Lib.hid hk6
          replace hk7 := Lib.hid hk7
          replace ho7 := Lib.hid ho7
          replace hb7 := Lib.hid hb7
          clear o1 o2 ho5
          go_wp2_with (at_builtin; refine wpList_own (enc := encG) (e := 82) (size := 2) (B := w.heap.size) (l := gs) rfl _ _ 78 rfl Try.underlying78 gone_info rfl (by omega) (by omega) w6.heap.size (T + d, k) rfl rfl o27 hx7 rfl (one_g _) (Nat.le_trans (show w.heap.size ≤ w6.heap.size by omega) hb7.out.size) (by omega) ?_)
          intro v2' w8 o28 hg8 _
          have o18 := Lib.hid (o17.grown hg8 (o17.apart o27 (by decide)))
          have hk8 := Lib.hid (pk_row hk7.out o27 hg8 (by decide) (by decide))
          have ho8 := Lib.hid (ho7.out.row_ hg8 (fun g hg => (o27.low g hg).1))
          replace o28 := Lib.hid o28
          clear hg8 o17 o27 hk7 ho7 hx7 hb7 hk6
          go_wp2_with fail
          refine ⟨⟨j + 1, b6, _, (l ++ [pc]), ⟨T + d, 5 * cw, D⟩, gs ++ [(T + d, k)], by rw [eT.out], by simp, by omega, o18.out, o28.out, hbb6, hk8.out, by rw [eT.out]; exact hI6.out, ⟨by (try simp); omega, by (try simp); omega⟩, hBd.out.gone hTd0 hk1 hk3, ho8.out⟩, ?_⟩
          simp only [intOf]
          omega
        · have hC := pcan_any p b' S2 (T + d) k w8 hk.out hI.out.wf
          rw [hsE] at hC
          have hS := fun W' h => psend_any p b' S2 (T + d) k W' h hI.out.wf
          simp only [hsE, hsS] at hS
          replace hsE := Lib.hid hsE
          replace hI6 := Lib.hid hI6
          replace hS := Lib.hid hS
          go_wp2_with fail
          with_reducible refine hC.mono ?_
          clear hC
          rintro e w5 ⟨rfl, hb5⟩
          have hk5 := hk.out.kept hb5
          have o1 := Lib.hid (own1.out.later hb5)
          have o2 := Lib.hid (own2.out.later hb5)
          have ho5 := Lib.hid (ho.out.late hb5)
          have hs5 := hb5.size
          clear hb5 y0 y1 y2 y3
          go_wp2_with fail
          with_reducible refine (hS.out w5 hk5).mono ?_
          rintro e w6 ⟨rfl, b6, hb6, hk6, hg6⟩
          replace o1 := Lib.hid (o1.out.p1 hg6 hpl)
          replace o2 := Lib.hid (o2.out.p1 hg6 hpl)
          replace ho5 := Lib.hid (ho5.out.trans (Only.of_grown hg6 (.inl rfl)))
          have hbb6 : b6 = b ∨ w.heap.size ≤ b6 := by omega
          have hs6 := hg6.size
          clear hg6 hk5 hS
          replace hk6 := Lib.hid hk6
          go_wp2_with fail
          refine ⟨⟨j + 1, b6, _, (l ++ [pc]), ⟨T + d, 5 * cw, D⟩, gs, by rw [eT.out], by simp, by omega, o1.out, o2.out, hbb6, hk6.out, by rw [eT.out]; exact hI6.out, ⟨by (try simp); omega, by omega⟩, hBd.out, ho5.out⟩, ?_⟩
          simp only [intOf]
          omega
    · have hjm : j = m := by omega
      subst hjm
      have hcase : ¬ j < n ∨ (j < n ∧ ¬ j < 40) := by omega
      clear hm' hlt
      rcases hcase with g1 | ⟨g1, g2⟩
      all_goals
        go_wp2_with fail
        go_ret3
        exact ⟨_, _, b', s, l, pc, gs, rfl, own1.out, own2.out, hbb, hk.out, hI.out, ⟨hl1, hl2⟩, hBd.out, ho.out⟩
end Go.Proofs.Ytniiemmgcjkphaa
