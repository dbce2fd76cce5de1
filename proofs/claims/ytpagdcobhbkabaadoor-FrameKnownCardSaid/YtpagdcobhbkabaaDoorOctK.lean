/-
  Layer 2: the document's reader: Num and Strict.
-/
import Derived.Test.YtpagdcobhbkabaaDoorOctJ
import Derived.BigQuiet
namespace Go.Proofs.YtpagdcobhbkabaaDoor
open Go.RowKit Go.Sort Go.Shelf Go.Deep Go.WideShapes

theorem pw_bounds (b : Int) : 1 ≤ Oct.pw b ∧ Oct.pw b ≤ 8 := by
  unfold Oct.pw
  (repeat' split) <;> omega

theorem next_byte2 (a : Int) {b : Int} {t : List Int} (h : Oct.Bys (b :: t)) {i : Nat} (hi : i < t.length) :
    ∃ x, (b :: t)[i + 1]? = some x ∧ Oct.val a (t.take (i + 1)) = 256 * Oct.val a (t.take i) + x ∧ 0 ≤ x ∧ x < 256 := by
  have hx := h.tail.at hi
  refine ⟨t[i], by simp [hi], ?_, hx.1, hx.2⟩
  rw [List.take_add_one, List.getElem?_eq_getElem hi, Oct.val_app]
  show Oct.val a (t.take i) * 256 + t[i] = _
  rw [Int.mul_comm]

set_option maxHeartbeats 2000000 in
set_option maxRecDepth 100000 in
theorem rnum_some (p q off n c : Nat) (b : Int) (t : List Int) (w : World) (hx : Blk w p 87 #[.slice (some ⟨q, off, none⟩) n c, .int .i64 0]) (hn : t.length + 1 = n) (_hnc : n ≤ c) (hs : n ≤ 10000) (_hpq : p ≠ q)
    (hc : ∀ k x, (b :: t)[k]? = some x → w.cell? ⟨q, off + k, none⟩ = some (.int .u8 x)) (hby : Oct.Bys (b :: t)) (A2 : Option Addr)
    (hsl : Oct.pw b ≤ n → ∀ W : World, (Instr.slice 27 (.slice (some ⟨q, off, none⟩) n c) (some (.int .i64 (Oct.pw b : Int))) none none).run Tryd.prog W = .ok (.slice A2 (n - Oct.pw b) (c - Oct.pw b)) W) :
    Calls Tryd.prog 63 #[.pointer (some ⟨p, 0, none⟩)] w fun e w' =>
      (n < Oct.pw b → e = .returned (.int .i64 0) ∧ w' = w.setCell ⟨p, 1, none⟩ (.int .i64 3)) ∧
      (¬ n < Oct.pw b → 9007199254740991 < Oct.val (b % 64) (t.take (Oct.pw b - 1)) → e = .returned (.int .i64 0) ∧ w' = w.setCell ⟨p, 1, none⟩ (.int .i64 9)) ∧
      (¬ n < Oct.pw b → ¬ 9007199254740991 < Oct.val (b % 64) (t.take (Oct.pw b - 1)) → e = .returned (.int .i64 (Oct.val (b % 64) (t.take (Oct.pw b - 1)))) ∧ w' = w.setCell ⟨p, 0, none⟩ (.slice A2 (n - Oct.pw b) (c - Oct.pw b))) := by
  have y0 := hx.cell 0
  have y1 := hx.cell 1
  simp at y0 y1
  have f0 := hx.frozen 0
  have f2 := hx.frozen 1
  have b0 := hc 0 b rfl
  rw [Nat.add_zero] at b0
  have hb := hby.head
  have hSb := pw_bounds b
  obtain ⟨S, hS⟩ : ∃ S, Oct.pw b = S := ⟨_, rfl⟩
  rw [hS] at hsl hSb ⊢
  have hpw : wrap64 (2 ^ (b / 64).toNat) = (S : Int) := by rw [← hS]; exact pw_wrap b hb.1 hb.2
  have hq1 : b.tdiv 64 = b / 64 := Int.tdiv_eq_ediv_of_nonneg hb.1
  have hq2 : b.tmod 64 = b % 64 := Int.tmod_eq_emod_of_nonneg hb.1
  replace hx := Lib.hid hx
  replace hc := Lib.hid hc
  replace hby := Lib.hid hby
  replace hS := Lib.hid hS
  replace hsl := Lib.hid hsl
  by_cases hlt : n < S
  · have hlt' : (n : Int) < (S : Int) := by omega
    go_enter Tryd.func63, Tryd.ntmps63
    go_wp2
    go_ret
    exact ⟨rfl, rfl⟩
  · have hlt' : ¬ (n : Int) < (S : Int) := by omega
    replace hsl := hsl.out (by omega)
    go_enter Tryd.func63, Tryd.ntmps63
    go_wp2
    go_loopw [4, 5] (fun v i wr => ∃ j k : Nat, i = .int .i64 (k : Int) ∧ k = j + 1 ∧ k ≤ S ∧ v = .int .i64 (Oct.val (b % 64) (t.take j)) ∧ w = wr) (fun _ i _ => 9 - (intOf i).toNat)
    case atStart => exact ⟨0, 1, rfl, rfl, by omega, rfl, rfl⟩
    case round =>
      obtain ⟨j, k, rfl, hjk, hj, rfl, rfl⟩ := hrel
      clear hpw hq1 hq2
      by_cases hjS : k < S
      · have hjS' : (k : Int) < (S : Int) := by omega
        have hvb := val_small (a := b % 64) (t := t) (by omega) (by omega) hby.out.tail (i := j) (by omega)
        obtain ⟨x, hx1, e1, x0, x1⟩ := next_byte2 (b % 64) hby.out (i := j) (by omega)
        rw [← hjk] at hx1 e1
        have b1 := hc.out k x hx1
        obtain ⟨V, hV⟩ : ∃ V, Oct.val (b % 64) (t.take j) = V := ⟨_, rfl⟩
        rw [hV] at e1 hvb ⊢
        obtain ⟨hv0, hv1⟩ := hvb
        have hkn : k < n := by omega
        have hwx : wrap64 x = x := by unfold wrap64; omega
        have hwv : IntKind.i64.wrap (256 * V) = 256 * V := IntWalk.i64_in _ (by omega)
        have hwv2 : IntKind.i64.wrap (256 * V + x) = 256 * V + x := IntWalk.i64_in _ (by omega)
        have hwi : IntKind.i64.wrap ((k : Int) + 1) = (k : Int) + 1 := IntWalk.i64_in _ (by omega)
        clear hv0 hv1
        clear hx1
        replace e1 := Lib.hid e1
        replace hV := Lib.hid hV
        replace hjk := Lib.hid hjk
        go_wp2
        refine ⟨⟨k, k + 1, by simp, rfl, by omega, by rw [e1.out], trivial⟩, ?_⟩
        simp only [intOf]
        omega
      · have hjS' : ¬ (k : Int) < (S : Int) := by omega
        have hSj : S - 1 = j := by omega
        replace hSj := Lib.hid hSj
        replace hjk := Lib.hid hjk
        obtain ⟨V, hV⟩ : ∃ V, Oct.val (b % 64) (t.take j) = V := ⟨_, rfl⟩
        rw [hV]
        have hV2 : Oct.val (b % 64) (t.take (S - 1)) = V := by rw [hSj.out]; exact hV
        replace hV := Lib.hid hV
        replace hV2 := Lib.hid hV2
        by_cases hm : 9007199254740991 < V
        · go_wp2
          go_ret
          rw [hV2.out]
          exact ⟨fun _ => ⟨rfl, rfl⟩, fun h => absurd hm (by omega)⟩
        · go_wp2
          go_ret
          rw [hV2.out]
          exact ⟨fun h => absurd h (by omega), fun _ => ⟨rfl, rfl⟩⟩

theorem rdnum_any (p q : Nat) (s : Oct.St) (w : World) (h : RRdr w p q s) (hpq : p ≠ q) :
    Calls Tryd.prog 63 #[.pointer (some ⟨p, 0, none⟩)] w fun e w' => e = .returned (.int .i64 (Oct.num s).1) ∧ RRdr w' p q (Oct.num s).2 ∧ Only (· = p) w w' := by
  have h0 := h
  obtain ⟨A, n, c, hx, hsl, hby, hs⟩ := h
  obtain ⟨l, e⟩ := s
  have y0 := hx.cell 0
  have y2 := hx.cell 1
  simp at y0 y2
  have f2 := hx.frozen 1
  have hn := hsl.1
  have hsame : ∀ (x : Int), RRdr (w.setCell ⟨p, 1, none⟩ (.int .i64 x)) p q ⟨l, x⟩ := fun x =>
    ⟨A, n, c, hx.set_ 1 _, hsl.far (by simp [World.setCell]) (fun _ => Below.heap_setCell w ⟨p, 1, none⟩ _ q (Ne.symm hpq)), hby, hs⟩
  have honly : ∀ (i : Nat) (u : Value), Only (· = p) w (w.setCell ⟨p, i, none⟩ u) := fun i u => Only.set (F := (· = p)) (Only.refl _ w) (p := ⟨p, i, none⟩) rfl u
  have hon := Only.refl (· = p) w
  unfold Oct.num
  simp only at hn y2 hby hsl ⊢
  by_cases e0 : e = 0
  · subst e0
    rw [if_pos rfl]
    cases l with
    | nil =>
      have hn0 : n = 0 := hn.symm
      subst hn0
      replace hx := Lib.hid hx
      replace hsl := Lib.hid hsl
      replace hsame := Lib.hid hsame
      replace h0 := Lib.hid h0
      replace honly := Lib.hid honly
      replace hon := Lib.hid hon
      go_enter Tryd.func63, Tryd.ntmps63
      go_wp2
      go_ret
      exact ⟨rfl, hsame.out 3, honly.out 1 _⟩
    | cons b t =>
      obtain ⟨_, hnc, hcm, ⟨_, hn0, _⟩ | ⟨off, rfl, hq, hcell⟩⟩ := id hsl
      · rw [hn0] at hn; simp at hn
      · have hget : ∀ k x, (b :: t)[k]? = some x → w.cell? ⟨q, off + k, none⟩ = some (.int .u8 x) := fun k x hk => by
          obtain ⟨hk1, hk2⟩ := List.getElem?_eq_some_iff.1 hk
          rw [← hk2]; exact hcell k hk1
        have hn' : t.length + 1 = n := hn
        by_cases hS : Oct.pw b ≤ n
        · obtain ⟨A2, r2, s2⟩ := slice_from hsl hS
          refine (rnum_some p q off n c b t w hx hn' hnc hs hpq hget hby A2 (fun _ => r2)).mono ?_
          rintro e w' ⟨_, h2, h3⟩
          rw [Oct.numL_cons, if_neg (by omega)]
          by_cases hm : 9007199254740991 < Oct.val (b % 64) (t.take (Oct.pw b - 1))
          · rw [if_pos hm]
            obtain ⟨rfl, rfl⟩ := h2 (by omega) hm
            exact ⟨rfl, hsame 9, honly 1 _⟩
          · rw [if_neg hm]
            obtain ⟨rfl, rfl⟩ := h3 (by omega) hm
            refine ⟨rfl, ⟨A2, n - Oct.pw b, c - Oct.pw b, hx.set_ 0 _, ?_, hby.tail.drop _, by omega⟩, honly 0 _⟩
            have hp0 := pw_bounds b
            have hd : (b :: t).drop (Oct.pw b) = t.drop (Oct.pw b - 1) := by
              rw [show Oct.pw b = (Oct.pw b - 1) + 1 by omega, List.drop_succ_cons]
              rfl
            rw [hd] at s2
            exact s2.far (by simp [World.setCell]) (fun _ => Below.heap_setCell w ⟨p, 0, none⟩ _ q (Ne.symm hpq))
        · refine (rnum_some p q off n c b t w hx hn' hnc hs hpq hget hby none (fun hh => absurd hh hS)).mono ?_
          rintro e w' ⟨h1, _⟩
          rw [Oct.numL_cons, if_pos (by omega)]
          obtain ⟨rfl, rfl⟩ := h1 (by omega)
          exact ⟨rfl, hsame 3, honly 1 _⟩
  · rw [if_neg e0]
    replace hx := Lib.hid hx
    replace hsl := Lib.hid hsl
    replace hsame := Lib.hid hsame
    replace h0 := Lib.hid h0
    replace honly := Lib.hid honly
    replace hon := Lib.hid hon
    go_enter Tryd.func63, Tryd.ntmps63
    go_wp2
    go_ret
    exact ⟨rfl, h0.out, hon.out⟩

theorem RRdr.lenAt {w : World} {p q : Nat} {s : Oct.St} (h : RRdr w p q s) : lenAt w p = s.l.length := by
  obtain ⟨A, n, c, hx, hsl, _⟩ := h
  have y0 := hx.cell 0
  simp at y0
  unfold Go.Proofs.YtpagdcobhbkabaaDoor.lenAt
  rw [y0]
  exact hsl.1.symm
theorem laterNq {B : Nat} {a b : World} (h : Below B a b) (n : Nat) : Below B a (b.drewN n) := ⟨h.os, h.tape, h.output, h.size, h.block⟩
theorem rl_below {w w' : World} {p : Nat} {u : Value} {B : Nat} (h : Below B w w') (hp : p < B) (e : w.cell? ⟨p, 0, none⟩ = some u) : w'.cell? ⟨p, 0, none⟩ = some u := (h.cell (p := ⟨p, 0, none⟩) hp).trans e

end Go.Proofs.YtpagdcobhbkabaaDoor
