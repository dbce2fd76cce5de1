/-
  Layer 2: OctetBack.
-/
import Derived.Test.YtpmfaocegkjhmaaDoorOctR
import Derived.BigQuiet
namespace Go.Proofs.YtpmfaocegkjhmaaDoor
open Go.RowKit Go.Sort Go.Shelf Go.Deep Go.WideShapes

theorem Rd.row3 {w : World} {A : Option Addr} {n : Nat} {f : Nat → Nat → Int} (h : Rd w A 3 n f) {k : Nat} (hk : k < n) :
    ∃ b off, A = some ⟨b, off, none⟩ ∧ ∀ wx, Below w.heap.size w wx → wx.cell? ⟨b, off + k * 3, none⟩ = some (.int .i64 (f k 0)) ∧ wx.cell? ⟨b, off + k * 3 + 1, none⟩ = some (.int .i64 (f k 1)) ∧ wx.cell? ⟨b, off + k * 3 + 2, none⟩ = some (.int .i64 (f k 2)) := by
  obtain ⟨b, off, rfl, hb, hc⟩ := h (by omega)
  have g : ∀ wx, Below w.heap.size w wx → ∀ j, j < 3 → wx.cell? ⟨b, off + k * 3 + j, none⟩ = some (.int .i64 (f k j)) := fun wx hx j hj => by
    have := (hx.cell (p := ⟨b, _, none⟩) hb).trans (hc k hk j hj)
    rwa [show off + (k * 3 + j) = off + k * 3 + j by omega] at this
  exact ⟨b, off, rfl, fun wx hx => ⟨g wx hx 0 (by omega), g wx hx 1 (by omega), g wx hx 2 (by omega)⟩⟩

theorem take_front {la lc : List Int} {K : Nat} (h : la.length = K) : Oct.take (K : Int) ⟨la ++ lc, 0⟩ = (la, ⟨lc, 0⟩) := by
  unfold Oct.take
  rw [if_pos rfl, if_neg (by omega), if_neg (by simp; omega), Int.toNat_natCast, ← h]
  simp
theorem num_front {n : Int} {s : Nat} (h : Oct.Fits n s) (r : List Int) : Oct.num ⟨Oct.enc n s ++ r, 0⟩ = (n, ⟨r, 0⟩) := Oct.numL_enc h r
theorem row_pair (f : Nat → Nat → Int) (k : Nat) : ∃ (NN : Int) (S : Nat), Oct.nOf (f k 0) (f k 1) = NN ∧ Oct.sOf (Oct.nOf (f k 0) (f k 1)) (f k 2) = (S : Int) ∧ Oct.row f k = (NN, (S : Int)) ∧ Oct.Fits NN S ∧ S ≤ 8 := by
  have h := Oct.row_sz f k
  refine ⟨_, (Oct.row f k).2.toNat, rfl, ?_, ?_, h.2, ?_⟩
  · show (Oct.row f k).2 = _
    have := h.1
    omega
  · have := h.1
    show (_, (Oct.row f k).2) = (_, (((Oct.row f k).2.toNat : Nat) : Int))
    congr 1
    omega
  · have := h.1
    omega

set_option maxHeartbeats 4000000 in
set_option maxRecDepth 100000 in
theorem back_any (A : Option Addr) (n c : Nat) (f : Nat → Nat → Int) (A1 : Option Addr) (n1 c1 : Nat) (l1 : List Int) (A2 : Option Addr) (n2 c2 : Nat) (l2 : List Int) (w : World) (hL : Lim w)
    (_hn : n ≤ 9223372036854775807) (hr : Rd w A 3 n f) (hl : n ≤ c) (_hc : c ≤ 9223372036854775807) (hr1 : Rb w A1 n1 c1 l1) (hb1 : Oct.Bys l1) (hr2 : Rb w A2 n2 c2 l2) (hb2 : Oct.Bys l2) :
    Calls Tryd.prog 8 #[.slice A n c, .slice A1 n1 c1, .slice A2 n2 c2] w fun e w' => e = .returned (.bool true) ∧ Below w.heap.size w w' := by
  clear _hn _hc
  obtain ⟨K, hK⟩ : ∃ K : Nat, min (n : Int) 60 = (K : Int) := ⟨(min (n : Int) 60).toNat, by omega⟩
  obtain ⟨K1, hK1⟩ : ∃ K : Nat, min (n1 : Int) 20 = (K : Int) := ⟨(min (n1 : Int) 20).toNat, by omega⟩
  obtain ⟨K2, hK2⟩ : ∃ K : Nat, min (n2 : Int) 20 = (K : Int) := ⟨(min (n2 : Int) 20).toNat, by omega⟩
  obtain ⟨A', hsl, hr'⟩ := rd_to hr hl (K := K) (by omega)
  obtain ⟨A1', hsl1, hr1'⟩ := rb_to hr1 (K := K1) (by omega)
  obtain ⟨A2', hsl2, hr2'⟩ := rb_to hr2 (K := K2) (by omega)
  have hy1 := hb1.take K1
  have hy2 := hb2.take K2
  have hk0 : K ≤ 60 ∧ K1 ≤ 20 ∧ K2 ≤ 20 := by omega
  obtain ⟨hk, hk1, hk2⟩ := hk0
  generalize l1.take K1 = la at *
  generalize l2.take K2 = lb at *
  clear hr hr1 hr2 hb1 hb2 hl
  replace hL := Lib.hid hL
  replace hr' := Lib.hid hr'
  replace hr1' := Lib.hid hr1'
  replace hr2' := Lib.hid hr2'
  replace hy1 := Lib.hid hy1
  replace hy2 := Lib.hid hy2
  go_enter Tryd.func8, Tryd.ntmps8
  go_wp2_with fail
  refine (works_any w hL.out).mono ?_
  rintro e w1 ⟨rfl, hb⟩
  have hL1 := Lib.hid (hL.out.later hb)
  have hr1'' := Lib.hid (hr1'.out.later hb)
  have hb0 := Lib.hid hb
  clear hb
  go_wp2_with fail
  go_quiet (fail)
  have hC := copyb_any A1' K1 c1 la (w1.drewN nq) (hr1''.out.later (laterDN (Below.refl _ _) _)) (by omega)
  have hbq := Lib.hid (laterNq hb0.out nq)
  go_wp2_with fail
  refine hC.mono ?_
  clear hC
  rintro e w2 ⟨v, rfl, ho, hb⟩
  have hbs := hbq.out.size
  have ho2 := Lib.hid (ho.mono (B' := w.heap.size) hbs)
  have hb2 := Lib.hid (later hbq.out hb)
  clear hb hbq hb0 hr1'' hL1 ho hbs
  have hla := hr1'.out.1
  have hlb := hr2'.out.1
  have h0 := hL.out.lt
  go_wp2_with fail
  go_loopw [7, 8] (fun v i wr => ∃ k : Nat, i = .int .i64 (k : Int) ∧ k ≤ K ∧ OB wr w.heap.size v (la ++ Oct.encs (Oct.rows f k)) ∧ Below w.heap.size w wr) (fun _ i _ => 60 - (intOf i).toNat)
  case atStart => exact ⟨0, rfl, by omega, by simpa [Oct.rows, Oct.encs] using ho2.out, hb2.out⟩
  case round =>
    clear ho2 hb2
    obtain ⟨k, rfl, hkK, ho, hbw⟩ := hrel
    by_cases hlt : k < K
    · obtain ⟨b, off, rfl, hcell⟩ := hr'.out.row3 hlt
      obtain ⟨x0, x1, x2⟩ := hcell wr hbw
      clear hcell
      obtain ⟨NN, S, hN, hS, hrow, hfit, hS8⟩ := row_pair f k
      have hM := made_any (f k 0) (f k 1) (f k 2) wr (hL.out.later hbw)
      rw [hS, hN] at hM
      have hes := Oct.encs_succ f k
      rw [hrow, Int.toNat_natCast] at hes
      have hle := Oct.encs_length f k
      obtain ⟨g, Av, cv, rfl, hg, hsl5, hjunk⟩ := ho.open_
      clear hjunk
      have hbyl : Oct.Bys (la ++ Oct.encs (Oct.rows f k)) := hy1.out.app (Oct.encs_bys f k)
      have hll : (la ++ Oct.encs (Oct.rows f k)).length ≤ 500 := by rw [List.length_append]; omega
      generalize hlg : la ++ Oct.encs (Oct.rows f k) = l at *
      generalize f k 0 = f0 at *
      generalize f k 1 = f1 at *
      generalize f k 2 = f2 at *
      have hput := Oct.putIn_fits l hfit
      have hlt' : (k : Int) < (K : Int) := by omega
      have hwi : IntKind.i64.wrap ((k : Int) + 1) = (k : Int) + 1 := IntWalk.i64_in _ (by omega)
      obtain ⟨L, hLl⟩ : ∃ L, l.length = L := ⟨_, rfl⟩
      rw [hLl] at hsl5 hll ⊢
      replace hlg := Lib.hid hlg
      replace hsl5 := Lib.hid hsl5
      replace hbw := Lib.hid hbw
      replace hbyl := Lib.hid hbyl
      replace hes := Lib.hid hes
      replace hput := Lib.hid hput
      replace hLl := Lib.hid hLl
      replace hfit := Lib.hid hfit
      replace hN := Lib.hid hN
      replace hS := Lib.hid hS
      replace hrow := Lib.hid hrow
      clear ho
      go_wp2_with fail
      with_reducible refine hM.mono ?_
      clear hM
      rintro e w3 ⟨rfl, hb⟩
      replace hsl5 := Lib.hid (hsl5.out.later hb)
      have hs3 := hb.size
      replace hbw := Lib.hid (old_later2 hbw.out hb hbw.out.size)
      clear hb
      have hP := putin_any Av L cv g l NN S w3 (hL.out.later hbw.out) hsl5.out (by omega)
      rw [hput.out] at hP
      go_wp2_with fail
      with_reducible refine hP.mono ?_
      clear hP
      rintro e w4 ⟨v4, rfl, ho4, hb⟩
      have hsw := hbw.out.size
      replace ho4 := ho4.mono (B' := w.heap.size) hsw
      replace hsl5 := Lib.hid (hsl5.out.later hb)
      replace hbw := Lib.hid (old_later2 hbw.out hb hsw)
      clear hb
      obtain ⟨A5, c5, rfl, hr5⟩ := ho4.rb
      have hlen5 : (l ++ Oct.enc NN S).length = L + S := by rw [List.length_append, Oct.enc_length, hLl.out]
      simp only [hlen5] at hr5 ⊢
      obtain ⟨A6, hsl6, hr6⟩ := rb_to hr5 (K := L) (by omega)
      have e6 : (l ++ Oct.enc NN S).take L = l := by rw [← hLl.out]; simp
      rw [e6] at hr6
      have hwl : IntKind.i64.wrap ((L : Int) + (S : Int)) = ((L + S : Nat) : Int) := by rw [IntWalk.i64_in _ (by omega)]; omega
      generalize hLS : L + S = LS at *
      replace hLS := Lib.hid hLS
      replace ho4 := Lib.hid ho4
      replace hr6 := Lib.hid hr6
      replace hr5 := Lib.hid hr5
      replace hlen5 := Lib.hid hlen5
      replace e6 := Lib.hid e6
      go_wp2_with fail
      refine (eqb_same hr6.out hsl5.out.rb hbyl.out).mono ?_
      rintro e w5 ⟨rfl, rfl⟩
      have hfin : OB w4 w.heap.size (.slice A5 LS c5) (la ++ Oct.encs (Oct.rows f (k + 1))) := by
        rw [hes.out, ← List.append_assoc, hlg.out]
        have h4 := ho4.out
        rw [hlen5.out] at h4
        exact h4
      replace hfin := Lib.hid hfin
      go_wp2_with fail
      refine ⟨⟨k + 1, by simp, by omega, hfin.out, hbw.out⟩, ?_⟩
      simp only [intOf]
      omega
    · have hkK' : k = K := by omega
      subst hkK'
      have hlt' : ¬ (k : Int) < (k : Int) := by omega
      have hel := Oct.encs_length f k
      have hby : Oct.Bys (la ++ Oct.encs (Oct.rows f k)) := hy1.out.app (Oct.encs_bys f k)
      have hll : (la ++ Oct.encs (Oct.rows f k)).length ≤ 500 := by rw [List.length_append]; omega
      generalize hE : Oct.encs (Oct.rows f k) = E at *
      replace hE := Lib.hid hE
      have hr2w := hr2'.out.later hbw
      go_wp2_with (at_builtin; refine wpList_app (B := w.heap.size) (l := la ++ E) (m := lb) rfl _ _ rfl rfl rfl ho hr2w (by rw [hlb]; omega) hbw.size ?_)
      intro v3 w3 ho3 hg _
      have hb3 : Below w.heap.size w w3 := hbw.grown hg hbw.size (fun g' hk => (World.ownsRow.lt ho g' hk).1)
      clear hg ho hr2w
      have ho4 : OB w3 w.heap.size v3 (la ++ (E ++ lb)) := by simpa using ho3
      have hby3 : Oct.Bys (la ++ (E ++ lb)) := by rw [← List.append_assoc]; exact hby.app hy2.out
      have hl3 : (la ++ (E ++ lb)).length ≤ 600 := by rw [← List.append_assoc, List.length_append, hlb]; omega
      clear ho3
      obtain ⟨all, hall⟩ : ∃ all, la ++ (E ++ lb) = all := ⟨_, rfl⟩
      rw [hall] at ho4 hby3 hl3
      replace hall := Lib.hid hall
      obtain ⟨g3, A3, c3, rfl, _, hsl3, hjunk⟩ := ho4.open_
      clear hjunk
      have hN := newr2_any A3 _ c3 g3 _ w3 (Nat.lt_of_lt_of_le h0 (Nat.le_trans (by have := hbw.size; omega) hb3.size)) hsl3 (by omega) hby3
      obtain ⟨Len, hLen⟩ : ∃ Len, all.length = Len := ⟨_, rfl⟩
      rw [hLen] at hN hsl3 hl3 ⊢
      replace hbw := Lib.hid hbw
      replace hb3 := Lib.hid hb3
      replace hsl3 := Lib.hid hsl3
      replace hby3 := Lib.hid hby3
      replace hLen := Lib.hid hLen
      replace hby := Lib.hid hby
      clear ho4
      go_wp2_with fail
      with_reducible refine hN.mono ?_
      clear hN
      rintro e w4 ⟨p, q, rfl, hrd, hat, hb⟩
      have hs3 := hb3.out.size
      have hb4 := Lib.hid (old_later2 hb3.out hb hs3)
      have hs4 := hb4.out.size
      clear hb
      have hpw : w.heap.size ≤ p := Nat.le_trans hs3 hat.p0
      have hpq := hat.ne
      have hT := take_any p q (K1 : Int) _ w4 hrd hpq
      rw [← hall.out, take_front hla] at hT
      clear hrd hat hsl3
      go_wp2_with fail
      with_reducible refine hT.mono ?_
      clear hT
      rintro e w5 ⟨v5, rfl, ho5, hrd5, hon⟩
      have hb5 := Lib.hid (only_old hb4.out hon (by rintro i rfl; exact hpw) hs4)
      obtain ⟨A5, c5, rfl, hr5⟩ := ho5.rb
      simp only [hla] at hr5 ⊢
      clear ho5 hon
      replace hrd5 := Lib.hid hrd5
      replace hr5 := Lib.hid hr5
      go_wp2_with fail
      refine (eqb_same hr5.out (hr1'.out.later hb5.out) hy1.out).mono ?_
      rintro e w6 ⟨rfl, rfl⟩
      clear hr5 hb4 hb3 hbw
      have hrd6 : Rdr w5 p q ⟨Oct.encs ((Oct.rows f k).drop 0) ++ lb, 0⟩ := by
        rw [List.drop_zero, hE.out]
        exact hrd5.out
      replace hrd6 := Lib.hid hrd6
      clear hrd5
      go_wp2_with fail
      go_loopw [14] (fun i wr => ∃ j : Nat, i = .int .i64 (j : Int) ∧ j ≤ k ∧ Rdr wr p q ⟨Oct.encs ((Oct.rows f k).drop j) ++ lb, 0⟩ ∧ Below w.heap.size w wr) (fun i _ => 60 - (intOf i).toNat)
      case atStart => exact ⟨0, rfl, by omega, hrd6.out, hb5.out⟩
      case round =>
        clear hrd6 hb5
        obtain ⟨j, rfl, hjk, hrd, hbw⟩ := hrel
        by_cases hjl : j < k
        · obtain ⟨b, off, rfl, hcell⟩ := hr'.out.row3 hjl
          obtain ⟨x0, x1, x2⟩ := hcell wr hbw
          clear hcell
          obtain ⟨NN, S, hN, hS, hrow, hfit, hS8⟩ := row_pair f j
          have hM := made_any (f j 0) (f j 1) (f j 2) wr (hL.out.later hbw)
          rw [hS, hN] at hM
          have hes := Oct.encs_drop f hjl
          rw [hrow, Int.toNat_natCast] at hes
          rw [hes, List.append_assoc] at hrd
          generalize f j 0 = f0 at *
          generalize f j 1 = f1 at *
          generalize f j 2 = f2 at *
          have hjl' : (j : Int) < (k : Int) := by omega
          have hwi : IntKind.i64.wrap ((j : Int) + 1) = (j : Int) + 1 := IntWalk.i64_in _ (by omega)
          replace hrd := Lib.hid hrd
          replace hbw := Lib.hid hbw
          replace hes := Lib.hid hes
          replace hfit := Lib.hid hfit
          replace hN := Lib.hid hN
          replace hS := Lib.hid hS
          replace hrow := Lib.hid hrow
          go_wp2_with fail
          with_reducible refine hM.mono ?_
          clear hM
          rintro e w6 ⟨rfl, hb⟩
          have hrd6 := hrd.out.later hb
          have hb6 := Lib.hid (old_later2 hbw.out hb hbw.out.size)
          clear hb hrd hbw
          have hNu := num_any p q _ w6 hrd6 hpq
          rw [num_front hfit.out] at hNu
          replace hrd6 := Lib.hid hrd6
          go_wp2_with fail
          with_reducible refine hNu.mono ?_
          clear hNu
          rintro e w7 ⟨rfl, hrd7, hon⟩
          have hb7 := Lib.hid (only_old hb6.out hon (by rintro i rfl; exact hpw) hb6.out.size)
          clear hon hrd6 hb6
          have hEr := err_any p q _ w7 hrd7
          replace hrd7 := Lib.hid hrd7
          go_wp2_with fail
          with_reducible refine hEr.mono ?_
          clear hEr
          rintro e w8 ⟨rfl, rfl⟩
          go_wp2_with fail
          refine ⟨⟨j + 1, by simp, by omega, hrd7.out, hb7.out⟩, ?_⟩
          simp only [intOf]
          omega
        · have hjk' : j = k := by omega
          subst hjk'
          have hjl' : ¬ (j : Int) < (j : Int) := by omega
          rw [List.drop_of_length_le (by rw [Oct.rows_length]; omega)] at hrd
          have hLe := left_any p q _ wr hrd
          rw [show (Oct.encs [] ++ lb).length = K2 from hlb] at hLe
          replace hrd := Lib.hid hrd
          replace hbw := Lib.hid hbw
          go_wp2_with fail
          with_reducible refine hLe.mono ?_
          rintro e w8 ⟨rfl, rfl⟩
          go_wp2
          go_ret
          exact ⟨rfl, hbw.out⟩
end Go.Proofs.YtpmfaocegkjhmaaDoor
