/-
  Layer 2: OctetCut: the walk.
-/
import Derived.Test.YtpmfaocegkjhmaaDoorOctX
namespace Go.Proofs.YtpmfaocegkjhmaaDoor
open Go.RowKit Go.Sort Go.Shelf Go.Deep Go.WideShapes

theorem hce_of {w : World} {B g n c : Nat} {l : List Int} (h : OI w B (.slice (some ⟨g, 0, none⟩) n c) l) {k : Nat} {x : Int} (hx : l[k]? = some x) : w.cell? ⟨g, k, none⟩ = some (.int .i64 x) := by
  have hk := (List.getElem?_eq_some_iff.1 hx).1
  obtain ⟨g', c', e, hc⟩ := h.cell (by omega)
  injection e with e1 e2 e3
  injection e1 with e1
  injection e1 with e1
  subst e1
  exact hc k x hx

set_option maxHeartbeats 4000000 in
set_option maxRecDepth 100000 in
theorem cut_any (A : Option Addr) (n c : Nat) (f : Nat → Nat → Int) (at_ : Int) (w : World) (hL : Lim w)
    (_hn : n ≤ 9223372036854775807) (hr : Rd w A 3 n f) (hl : n ≤ c) (_hc : c ≤ 9223372036854775807) :
    Calls Tryd.prog 5 #[.slice A n c, .int .i64 at_] w fun e w' => e = .returned (.bool true) ∧ Below w.heap.size w w' := by
  clear _hn _hc
  obtain ⟨K, hK⟩ : ∃ K : Nat, min (n : Int) 20 = (K : Int) := ⟨(min (n : Int) 20).toNat, by omega⟩
  obtain ⟨A', hsl, hr'⟩ := rd_to hr hl (K := K) (by omega)
  have hk : K ≤ 20 := by omega
  have h0 := hL.lt
  clear hr hl
  replace hL := Lib.hid hL
  replace hr' := Lib.hid hr'
  go_enter Tryd.func5, Tryd.ntmps5
  go_wp2_with fail
  go_loopw [5, 6, 7] (fun v u i wr => ∃ k : Nat, i = .int .i64 (k : Int) ∧ k ≤ K ∧ OB wr w.heap.size v (Oct.encs (Oct.rows f k)) ∧ OI wr w.heap.size u (Oct.ends f k) ∧ Below w.heap.size w wr) (fun _ _ i _ => 60 - (intOf i).toNat)
  case atStart => exact ⟨0, rfl, by omega, OB.nil _ _, OI.nil _ _, Below.refl _ _⟩
  case round =>
    obtain ⟨k, rfl, hkK, ho, hoi, hbw⟩ := hrel
    by_cases hlt : k < K
    · obtain ⟨b, off, rfl, hcell⟩ := hr'.out.row3 hlt
      obtain ⟨x0, x1, x2⟩ := hcell wr hbw
      clear hcell
      obtain ⟨NN, S, hN, hS, hrow, hfit, hS8⟩ := row_pair f k
      have hM := made_any (f k 0) (f k 1) (f k 2) wr (hL.out.later hbw)
      rw [hS, hN] at hM
      have hes := Oct.encs_succ f k
      rw [hrow, Int.toNat_natCast] at hes
      have hle := Oct.encs_length f k
      have hen := Oct.ends_succ f k
      rw [hes] at hen
      obtain ⟨g, Av, cv, rfl, hg, hsl5, hjunk⟩ := ho.open_
      clear hjunk ho
      generalize hlg : Oct.encs (Oct.rows f k) = l at *
      generalize f k 0 = f0 at *
      generalize f k 1 = f1 at *
      generalize f k 2 = f2 at *
      have hput := Oct.putIn_fits l hfit
      have hlt' : (k : Int) < (K : Int) := by omega
      have hwi : IntKind.i64.wrap ((k : Int) + 1) = (k : Int) + 1 := IntWalk.i64_in _ (by omega)
      obtain ⟨L, hLl⟩ : ∃ L, l.length = L := ⟨_, rfl⟩
      rw [hLl] at hsl5 hle ⊢
      have hel := Oct.ends_length f k
      replace hlg := Lib.hid hlg
      replace hsl5 := Lib.hid hsl5
      replace hbw := Lib.hid hbw
      replace hes := Lib.hid hes
      replace hput := Lib.hid hput
      replace hLl := Lib.hid hLl
      replace hfit := Lib.hid hfit
      replace hN := Lib.hid hN
      replace hS := Lib.hid hS
      replace hrow := Lib.hid hrow
      replace hoi := Lib.hid hoi
      replace hen := Lib.hid hen
      replace hel := Lib.hid hel
      go_wp2_with fail
      with_reducible refine hM.mono ?_
      clear hM
      rintro e w3 ⟨rfl, hb⟩
      replace hsl5 := Lib.hid (hsl5.out.later hb)
      replace hoi := Lib.hid (hoi.out.later hb)
      replace hbw := Lib.hid (old_later2 hbw.out hb hbw.out.size)
      clear hb
      have hP := putin_any Av L cv g l NN S w3 (hL.out.later hbw.out) hsl5.out (by omega)
      rw [hput.out] at hP
      go_wp2_with fail
      with_reducible refine hP.mono ?_
      clear hP
      rintro e w4 ⟨v4, rfl, ho4, hb⟩
      have hsw := hbw.out.size
      have hap := ho4.apart hoi.out (Nat.le_refl _)
      replace ho4 := ho4.mono (B' := w.heap.size) hsw
      replace hoi := Lib.hid (hoi.out.later hb)
      replace hbw := Lib.hid (old_later2 hbw.out hb hsw)
      clear hb hsl5
      obtain ⟨A5, c5, hv4, hr5⟩ := ho4.rb
      subst hv4
      have hlen5 : (l ++ Oct.enc NN S).length = L + S := by rw [List.length_append, Oct.enc_length, hLl.out]
      rw [hlen5] at ho4 hap ⊢
      clear hr5
      obtain ⟨LS, hLS⟩ : ∃ LS, L + S = LS := ⟨_, rfl⟩
      rw [hLS] at ho4 hap hlen5 ⊢
      have hsw4 := hbw.out.size
      have hx5 := Blk.new w4 3 #[.int .i64 (LS : Int)]
      have hoi5 := hoi.out.later (laterA (Below.refl w4.heap.size w4) (.cells #[.int .i64 (LS : Int)] 3))
      have ho5 := ho4.alloc (.cells #[.int .i64 (LS : Int)] 3)
      have hbw5 := old_later2 hbw.out (laterA (Below.refl w4.heap.size w4) (.cells #[.int .i64 (LS : Int)] 3)) hsw4
      replace ho4 := Lib.hid ho4
      replace hlen5 := Lib.hid hlen5
      replace hap := Lib.hid hap
      replace ho5 := Lib.hid ho5
      replace hLS := Lib.hid hLS
      replace hbw5 := Lib.hid hbw5
      go_wp2_with (at_builtin; refine wpList_oi (B := w.heap.size) (h := w4.heap.size) (y := (LS : Int)) rfl _ _ rfl rfl rfl hoi5 hx5 (by rw [hel.out]; omega) (Nat.le_trans hsw4 (by simp)) ?_)
      intro u6 w6 hoi6 hg6
      have hob6 : OB w6 w.heap.size (.slice A5 LS c5) (l ++ Oct.enc NN S) := World.ownsRow.kept ho5.out hg6 hap.out
      have hbw6 := hbw5.out.grown hg6 hbw5.out.size (fun g' hk => (World.ownsRow.lt hoi5 g' hk).1)
      rw [← hes.out] at hob6
      have hoi7 : OI w6 w.heap.size u6 (Oct.ends f (k + 1)) := by
        rw [hen.out, hlen5.out]
        exact hoi6
      clear hg6 hoi6 hoi5 hx5
      replace hob6 := Lib.hid hob6
      replace hoi7 := Lib.hid hoi7
      replace hbw6 := Lib.hid hbw6
      go_wp2_with fail
      refine ⟨⟨k + 1, by simp, by omega, hob6.out, hoi7.out, hbw6.out⟩, ?_⟩
      simp only [intOf]
      omega
    · have hkK' : k = K := by omega
      subst hkK'
      have hlt' : ¬ (k : Int) < (k : Int) := by omega
      have hel := Oct.encs_length f k
      have hby := Oct.encs_bys f k
      obtain ⟨g, Av, cv, rfl, hg, hsl5, hjunk⟩ := ho.open_
      clear hjunk ho
      obtain ⟨E, hE⟩ : ∃ E, Oct.encs (Oct.rows f k) = E := ⟨_, rfl⟩
      rw [hE] at hsl5 hel hby ⊢
      obtain ⟨L, hLl⟩ : ∃ L, E.length = L := ⟨_, rfl⟩
      rw [hLl] at hsl5 hel ⊢
      have hB := bring_same at_ ((L : Int) + 1) (by omega) (by omega)
      have hm0 := Int.emod_nonneg at_ (show ((L : Int) + 1) ≠ 0 by omega)
      have hm1 := Int.emod_lt_of_pos at_ (show 0 < ((L : Int) + 1) by omega)
      obtain ⟨C, hC⟩ : ∃ C : Nat, at_ % ((L : Int) + 1) = (C : Int) := ⟨(at_ % ((L : Int) + 1)).toNat, by omega⟩
      rw [hC] at hB hm0 hm1
      have hCL : C ≤ L := by omega
      clear hm0 hm1 hC
      obtain ⟨A6, hsl6, hs6⟩ := slice_to hsl5 (K := C) hCL
      have hwl : IntKind.i64.wrap ((L : Int) + 1) = (L : Int) + 1 := IntWalk.i64_in _ (by omega)
      have hN := newr2_any A6 C cv g _ wr (Nat.lt_of_lt_of_le h0 hbw.size) hs6 (by omega) (hby.take C)
      replace hbw := Lib.hid hbw
      replace hoi := Lib.hid hoi
      replace hE := Lib.hid hE
      replace hLl := Lib.hid hLl
      replace hby := Lib.hid hby
      replace hs6 := Lib.hid hs6
      replace hsl5 := Lib.hid hsl5
      go_wp2_with fail
      with_reducible refine (hB wr).mono ?_
      rintro e w3 ⟨rfl, rfl⟩
      go_wp2_with fail
      with_reducible refine hN.mono ?_
      clear hN
      rintro e w4 ⟨p, q, rfl, hrd, hat, hb⟩
      have hpw : w.heap.size ≤ p := Nat.le_trans hbw.out.size hat.p0
      have hpq := hat.ne
      have hoi4 := Lib.hid (hoi.out.later hb)
      have hui : ∀ g', Value.ownBlock u6 = some g' → g' ≠ p := fun g' hg' => by
        have h1 := hoi.out.lt hg'
        have h2 := hat.p0
        omega
      have hb4 := Lib.hid (old_later2 hbw.out hb hbw.out.size)
      have hrd4 : Rdr w4 p q ⟨(Oct.encs ((Oct.rows f k).drop 0)).take (C - (Oct.encs (Oct.rows f 0)).length), 0⟩ := by
        rw [List.drop_zero, hE.out]
        exact hrd
      clear hb hrd hat hbw hoi hs6 hsl5
      replace hui := Lib.hid hui
      replace hrd4 := Lib.hid hrd4
      go_wp2_with fail
      go_loopw [14] (fun i wr => ∃ j : Nat, i = .int .i64 (j : Int) ∧ j ≤ k ∧ (Oct.encs (Oct.rows f j)).length ≤ C ∧ Rdr wr p q ⟨(Oct.encs ((Oct.rows f k).drop j)).take (C - (Oct.encs (Oct.rows f j)).length), 0⟩ ∧ OI wr w.heap.size u6 (Oct.ends f k) ∧ Below w.heap.size w wr) (fun i _ => 60 - (intOf i).toNat)
      case atStart => exact ⟨0, rfl, by omega, by simp [Oct.rows, Oct.encs], hrd4.out, hoi4.out, hb4.out⟩
      case round =>
        clear hrd4 hoi4 hb4
        obtain ⟨j, rfl, hjk, hEC, hrd, hoi, hbw⟩ := hrel
        by_cases hjl : j < k
        · obtain ⟨b, off, rfl, hcell⟩ := hr'.out.row3 hjl
          obtain ⟨x0, x1, x2⟩ := hcell wr hbw
          clear hcell
          obtain ⟨NN, S, hN, hS, hrow, hfit, hS8⟩ := row_pair f j
          have hM := made_any (f j 0) (f j 1) (f j 2) wr (hL.out.later hbw)
          rw [hS, hN] at hM
          have hes := Oct.encs_drop f hjl
          rw [hrow, Int.toNat_natCast] at hes
          rw [hes] at hrd
          have hsu := congrArg List.length (Oct.encs_succ f j)
          rw [hrow, Int.toNat_natCast, List.length_append, Oct.enc_length] at hsu
          have hea := Oct.ends_at f hjl
          obtain ⟨ge, ce, rfl, hce⟩ := hoi.cell (by rw [Oct.ends_length]; omega)
          clear hce
          generalize f j 0 = f0 at *
          generalize f j 1 = f1 at *
          generalize f j 2 = f2 at *
          obtain ⟨Ej, hEj⟩ : ∃ E, (Oct.encs (Oct.rows f j)).length = E := ⟨_, rfl⟩
          obtain ⟨Ek, hEk⟩ : ∃ E, (Oct.encs (Oct.rows f (j + 1))).length = E := ⟨_, rfl⟩
          rw [hEj] at hEC hrd hsu
          rw [hEk] at hsu hea
          have hlk := Oct.ends_length f k
          rw [hlk] at hoi ⊢
          obtain ⟨R, hR⟩ : ∃ R, Oct.encs ((Oct.rows f k).drop (j + 1)) = R := ⟨_, rfl⟩
          rw [hR] at hrd
          have hjl' : (j : Int) < (k : Int) := by omega
          have hwi : IntKind.i64.wrap ((j : Int) + 1) = (j : Int) + 1 := IntWalk.i64_in _ (by omega)
          replace hrd := Lib.hid hrd
          replace hbw := Lib.hid hbw
          replace hes := Lib.hid hes
          replace hfit := Lib.hid hfit
          replace hN := Lib.hid hN
          replace hS := Lib.hid hS
          replace hrow := Lib.hid hrow
          replace hoi := Lib.hid hoi
          replace hea := Lib.hid hea
          replace hEj := Lib.hid hEj
          replace hEk := Lib.hid hEk
          replace hR := Lib.hid hR
          replace hlk := Lib.hid hlk
          replace hui := Lib.hid hui
          go_wp2_with fail
          with_reducible refine hM.mono ?_
          clear hM
          rintro e w6 ⟨rfl, hb⟩
          have hrd6 := hrd.out.later hb
          have hoi6 := hoi.out.later hb
          have hb6 := Lib.hid (old_later2 hbw.out hb hbw.out.size)
          clear hb hrd hbw hoi
          have hNu := num_any p q _ w6 hrd6 hpq
          replace hrd6 := Lib.hid hrd6
          replace hoi6 := Lib.hid hoi6
          by_cases hcut : Ek ≤ C
          · rw [Oct.cut_in hfit.out R (show S ≤ C - Ej by omega)] at hNu
            go_wp2_with fail
            with_reducible refine hNu.mono ?_
            clear hNu
            rintro e w7 ⟨rfl, hrd7, hon⟩
            have hoi7 := hoi6.out.but hon hui.out
            have hb7 := Lib.hid (only_old hb6.out hon (by rintro i rfl; exact hpw) hb6.out.size)
            have hce := hce_of hoi7 hea.out
            clear hon hrd6 hb6 hoi6
            have hEr := err_any p q _ w7 hrd7
            have hcut' : (Ek : Int) ≤ (C : Int) := by omega
            have hcut2 : ¬ (C : Int) < (Ek : Int) := by omega
            have eR : C - Ej - S = C - Ek := by omega
            rw [eR, ← hR.out, ← hEk.out] at hrd7
            replace hrd7 := Lib.hid hrd7
            replace hoi7 := Lib.hid hoi7
            go_wp2_with fail
            with_reducible refine hEr.mono ?_
            clear hEr
            rintro e w8 ⟨rfl, rfl⟩
            go_wp2_with fail
            refine ⟨⟨j + 1, by simp, by omega, by rw [hEk.out]; exact hcut, hrd7.out, hoi7.out, hb7.out⟩, ?_⟩
            simp only [intOf]
            omega
          · obtain ⟨l9, h9⟩ := Oct.cut_off hfit.out R (show C - Ej < S by omega)
            rw [h9] at hNu
            clear h9
            go_wp2_with fail
            with_reducible refine hNu.mono ?_
            clear hNu
            rintro e w7 ⟨rfl, hrd7, hon⟩
            have hoi7 := hoi6.out.but hon hui.out
            have hb7 := Lib.hid (only_old hb6.out hon (by rintro i rfl; exact hpw) hb6.out.size)
            have hce := hce_of hoi7 hea.out
            clear hon hrd6 hb6 hoi6
            have hEr := err_any p q _ w7 hrd7
            have hEn := end_any p q _ w7 hrd7
            rw [show Oct.fin ⟨l9, 3⟩ = 3 from rfl] at hEn
            have hWk := works_any w7 (hL.out.later hb7.out)
            have hcut' : ¬ (Ek : Int) ≤ (C : Int) := by omega
            have hcut2 : (C : Int) < (Ek : Int) := by omega
            replace hrd7 := Lib.hid hrd7
            replace hoi7 := Lib.hid hoi7
            replace hWk := Lib.hid hWk
            go_wp2_with fail
            with_reducible refine hEr.mono ?_
            clear hEr
            rintro e w8 ⟨rfl, rfl⟩
            go_wp2_with fail
            with_reducible refine hEn.mono ?_
            clear hEn
            rintro e w8 ⟨rfl, rfl⟩
            go_wp2_with fail
            with_reducible refine hWk.out.mono ?_
            rintro e w8 ⟨rfl, hb⟩
            go_wp2
            go_ret
            exact ⟨rfl, old_later2 hb7.out hb hb7.out.size⟩
        · have hjk' : j = k := by omega
          subst hjk'
          have hjl' : ¬ (j : Int) < (j : Int) := by omega
          rw [List.drop_of_length_le (by rw [Oct.rows_length]; omega)] at hrd
          have hEn := end_any p q _ wr hrd
          have hfn : Oct.fin ⟨(Oct.encs []).take (C - (Oct.encs (Oct.rows f j)).length), 0⟩ = 0 := by simp [Oct.encs, Oct.fin]
          rw [hfn] at hEn
          have hWk := works_any wr (hL.out.later hbw)
          replace hrd := Lib.hid hrd
          replace hbw := Lib.hid hbw
          replace hoi := Lib.hid hoi
          replace hWk := Lib.hid hWk
          go_wp2_with fail
          with_reducible refine hEn.mono ?_
          rintro e w8 ⟨rfl, rfl⟩
          go_wp2_with fail
          with_reducible refine hWk.out.mono ?_
          rintro e w8 ⟨rfl, hb⟩
          go_wp2
          go_ret
          exact ⟨rfl, old_later2 hbw.out hb hbw.out.size⟩
end Go.Proofs.YtpmfaocegkjhmaaDoor
