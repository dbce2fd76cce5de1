/-
  Layer 5: the document's reader: num, add, ranges; its ranges, plainly.
-/
import Derived.Test.YtpagdcobhbkabaaDoorFrR
namespace Go.Proofs.YtpagdcobhbkabaaDoor
open Go.RowKit Go.Sort Go.Shelf Go.Deep Go.WideShapes

set_option maxHeartbeats 2000000 in
theorem rfsame_any (a b : Frm.Ak) (A A' : Option Addr) (n c n' c' : Nat) (w : World) (h : Rg w A n c a.rs) (h' : Rg w A' n' c' b.rs) (hs : n ≤ 1000) :
    Calls Tryd.prog 19 #[av a A n c, av b A' n' c'] w fun e w' => e = .returned (.bool (Frm.sm a b)) ∧ Below w.heap.size w w' := by
  have hb := laterA (laterA (Below.refl w.heap.size w) (.cells #[.int .i64 a.d, .slice A n c, .bool a.mkd, .int .i64 a.e0, .int .i64 a.e1, .int .i64 a.e2] 25)) (.cells #[.int .i64 b.d, .slice A' n' c', .bool b.mkd, .int .i64 b.e0, .int .i64 b.e1, .int .i64 b.e2] 25)
  have hn := h.1
  have hn' := h'.1
  obtain ⟨d, rs, mkd, e0, e1, e2⟩ := a
  obtain ⟨d', rs', mkd', e0', e1', e2'⟩ := b
  unfold Frm.sm av
  simp only at hb hn hn' h h' ⊢
  have q3 := eq_arr3 e0 e1 e2 e0' e1' e2'
  replace hb := Lib.hid hb
  by_cases c0 : d = d'
  · subst c0
    have f0 : (d != d) = false := by simp
    rw [decide_eq_true (show d = d from rfl)]
    by_cases c1 : mkd = mkd'
    · subst c1
      have f1 : (mkd != mkd) = false := by simp
      rw [decide_eq_true (show mkd = mkd from rfl)]
      by_cases c2 : e0 = e0' ∧ e1 = e1' ∧ e2 = e2'
      · obtain ⟨rfl, rfl, rfl⟩ := c2
        have f2 : (e0 == e0 && (e1 == e1 && e2 == e2)) = true := by simp
        simp only [decide_true, Bool.true_and]
        rw [f2] at q3
        by_cases e : n = n'
        · subst e
          have ei : ((n : Int) != (n : Int)) = false := by simp
          have hx := (Blk.new w 25 #[.int .i64 d, .slice A n c, .bool mkd, .int .i64 e0, .int .i64 e1, .int .i64 e2]).alloc (.cells #[.int .i64 d, .slice A' n c', .bool mkd, .int .i64 e0, .int .i64 e1, .int .i64 e2] 25)
          have hy := Blk.new2 w (.cells #[.int .i64 d, .slice A n c, .bool mkd, .int .i64 e0, .int .i64 e1, .int .i64 e2] 25) 25 #[.int .i64 d, .slice A' n c', .bool mkd, .int .i64 e0, .int .i64 e1, .int .i64 e2]
          replace h := h.later hb.out
          replace h' := h'.later hb.out
          replace h := Lib.hid h
          replace h' := Lib.hid h'
          replace hx := Lib.hid hx
          replace hy := Lib.hid hy
          go_enter Tryd.func19, Tryd.ntmps19
          go_wp2_with fail
          obtain ⟨W, hW⟩ : ∃ W, (w.alloc (.cells #[.int .i64 d, .slice A n c, .bool mkd, .int .i64 e0, .int .i64 e1, .int .i64 e2] 25)).alloc (.cells #[.int .i64 d, .slice A' n c', .bool mkd, .int .i64 e0, .int .i64 e1, .int .i64 e2] 25) = W := ⟨_, rfl⟩
          rw [hW] at hb h h' hx hy ⊢
          clear hW
          have x1 := hx.out.cell 1
          have y1 := hy.out.cell 1
          simp at x1 y1
          clear hx hy
          go_loopw [5] (fun i wr => ∃ k q : Nat, i = .int .i64 (k : Int) ∧ k ≤ n ∧ rs.take k = rs'.take k ∧ wr = W.drewN q) (fun i _ => n - (intOf i).toNat)
          case atStart => exact ⟨0, 0, rfl, by omega, by simp, rfl⟩
          case round =>
            obtain ⟨k, q, rfl, hk, htk, rfl⟩ := hrel
            by_cases hlt : k < n
            · have hlt' : (k : Int) < (n : Int) := by omega
              have hwi : IntKind.i64.wrap ((k : Int) + 1) = (k : Int) + 1 := IntWalk.i64_in _ (by omega)
              obtain ⟨b1, o1, rfl, _, hc1⟩ := h.out.at (by omega)
              obtain ⟨b2, o2, rfl, _, hc2⟩ := h'.out.at (by omega)
              obtain ⟨x, hx⟩ : ∃ x, rs[k]? = some x := ⟨_, List.getElem?_eq_getElem (by omega)⟩
              obtain ⟨y, hy⟩ : ∃ y, rs'[k]? = some y := ⟨_, List.getElem?_eq_getElem (by omega)⟩
              obtain ⟨g0, g1⟩ := hc1 k x hx
              obtain ⟨z0, z1⟩ := hc2 k y hy
              clear hc1 hc2
              obtain ⟨p1, p2⟩ := x
              obtain ⟨u1, u2⟩ := y
              simp only at g0 g1 z0 z1
              have q2 := eq_rng p1 p2 u1 u2
              by_cases he : p1 = u1 ∧ p2 = u2
              · obtain ⟨rfl, rfl⟩ := he
                have htk2 : rs.take (k + 1) = rs'.take (k + 1) := by rw [List.take_add_one, List.take_add_one, hx, hy, htk]
                replace htk := Lib.hid htk
                replace hx := Lib.hid hx
                replace hy := Lib.hid hy
                replace htk2 := Lib.hid htk2
                go_wp2_with fail
                go_quiet (fail)
                go_wp2_with fail
                refine ⟨⟨k + 1, q + nq, by simp, by omega, htk2.out, rfl⟩, ?_⟩
                simp only [intOf]
                omega
              · have hne : (p1 == u1 && p2 == u2) = false := by
                  cases hh : (p1 == u1 && p2 == u2) with
                  | false => rfl
                  | true =>
                    simp only [Bool.and_eq_true, beq_iff_eq] at hh
                    exact absurd hh he
                have hrs : ¬ rs = rs' := fun hh => by
                  subst hh
                  rw [hx] at hy
                  injection hy with e1
                  injection e1 with e1 e2
                  exact he ⟨e1, e2⟩
                rw [hne] at q2
                clear he hne
                replace htk := Lib.hid htk
                replace hx := Lib.hid hx
                replace hy := Lib.hid hy
                replace hrs := Lib.hid hrs
                go_wp2_with fail
                go_quiet (fail)
                go_wp2
                go_ret
                exact ⟨by rw [decide_eq_false hrs.out]; rfl, laterNq (laterNq hb.out _) _⟩
            · have hlt' : ¬ (k : Int) < (n : Int) := by omega
              have hrs : rs = rs' := by
                have h1 := htk
                rwa [List.take_of_length_le (by omega), List.take_of_length_le (by omega)] at h1
              replace htk := Lib.hid htk
              replace hrs := Lib.hid hrs
              go_wp2
              go_ret
              exact ⟨by rw [decide_eq_true hrs.out]; rfl, laterNq hb.out _⟩
        · have ei : ((n : Int) != (n' : Int)) = true := by simpa using fun hh => e (by omega)
          have hrs : ¬ rs = rs' := fun hh => by
            rw [hh, hn'] at hn
            exact e hn.symm
          replace hrs := Lib.hid hrs
          clear hn hn' h h' e
          go_enter Tryd.func19, Tryd.ntmps19
          go_wp2
          go_ret
          exact ⟨by rw [decide_eq_false hrs.out]; rfl, hb.out⟩
      · have f2 : (e0 == e0' && (e1 == e1' && e2 == e2')) = false := by
          cases hh : (e0 == e0' && (e1 == e1' && e2 == e2')) with
          | false => rfl
          | true =>
            simp only [Bool.and_eq_true, beq_iff_eq] at hh
            exact absurd ⟨hh.1, hh.2.1, hh.2.2⟩ c2
        have f3 : (decide (e0 = e0') && decide (e1 = e1') && decide (e2 = e2')) = false := by
          cases hh : (decide (e0 = e0') && decide (e1 = e1') && decide (e2 = e2')) with
          | false => rfl
          | true =>
            simp only [Bool.and_eq_true, decide_eq_true_eq] at hh
            exact absurd ⟨hh.1.1, hh.1.2, hh.2⟩ c2
        rw [f2] at q3
        rw [f3]
        simp only [Bool.and_false, Bool.false_and]
        clear c2 f2 f3 h h'
        go_enter Tryd.func19, Tryd.ntmps19
        go_wp2
        go_ret
        exact ⟨rfl, hb.out⟩
    · have f1 : (mkd != mkd') = true := by simpa using c1
      rw [decide_eq_false c1]
      simp only [Bool.and_false, Bool.false_and]
      clear q3 h h'
      go_enter Tryd.func19, Tryd.ntmps19
      go_wp2
      go_ret
      exact ⟨rfl, hb.out⟩
  · have f0 : (d != d') = true := by simpa using c0
    rw [decide_eq_false c0]
    simp only [Bool.false_and]
    clear q3 h h'
    go_enter Tryd.func19, Tryd.ntmps19
    go_wp2
    go_ret
    exact ⟨rfl, hb.out⟩
/-- The document's reader in the block P: the bytes' reader at p, the ranges so far, the first error. -/
structure DR (w : World) (P p q : Nat) (s : Oct.St) (E : Int) (mk : Bool) (v : Value) : Prop where
  bx : Blk w P 76 #[.pointer (some ⟨p, 0, none⟩), .int .i64 0, v, .bool mk, .int .i64 0, .int .i64 0, .int .i64 0, .int .i64 E]
  rd : RRdr w p q s
structure Apd (P p q : Nat) : Prop where
  pq : p ≠ q
  Pp : P ≠ p
  Pq : P ≠ q
/-- The next number; 0 behind an error. -/
def dn (s : Oct.St) (E : Int) : Int × Oct.St × Int := if E = 0 then ((Oct.num s).1, (Oct.num s).2, (Oct.num s).2.e) else (0, s, E)
set_option maxHeartbeats 1000000 in
theorem dnum_any (P p q : Nat) (s : Oct.St) (E : Int) (mk : Bool) (v : Value) (w : World) (h : DR w P p q s E mk v) (ha : Apd P p q) :
    Calls Tryd.prog 51 #[.pointer (some ⟨P, 0, none⟩)] w fun e w' => e = .returned (.int .i64 (dn s E).1) ∧ DR w' P p q (dn s E).2.1 (dn s E).2.2 mk v ∧ Only (fun k => k = p ∨ k = P) w w' := by
  obtain ⟨hbx, hrd⟩ := h
  have c0 := hbx.cell 0
  have c7 := hbx.cell 7
  simp at c0 c7
  unfold dn
  by_cases hE : E = 0
  · rw [if_pos hE]
    subst hE
    have hN := rdnum_any p q s w hrd ha.pq
    obtain ⟨n, s1, hR⟩ : ∃ n s1, Oct.num s = (n, s1) := ⟨_, _, rfl⟩
    rw [hR] at hN ⊢
    simp only at hN ⊢
    replace hbx := Lib.hid hbx
    replace hrd := Lib.hid hrd
    replace ha := Lib.hid ha
    go_enter Tryd.func51, Tryd.ntmps51
    go_wp2_with fail
    with_reducible refine hN.mono ?_
    clear hN c0 c7
    rintro e w1 ⟨rfl, hrd1, hon⟩
    have hbx1 := hbx.out.only hon ha.out.Pp
    have c0 := hbx1.cell 0
    have c7 := hbx1.cell 7
    have f7 := hbx1.frozen 7
    have ce := hrd1.err
    simp at c0 c7
    have hbx2 := hbx1.set_ 7 (.int .i64 s1.e)
    have hoS : Only (· = P) w1 (w1.setCell ⟨P, 7, none⟩ (.int .i64 s1.e)) := Only.set (F := (· = P)) (p := ⟨P, 7, none⟩) (Only.refl _ w1) rfl _
    have hrd2 := hrd1.only hoS (Ne.symm ha.out.Pp) (Ne.symm ha.out.Pq)
    have hoT : Only (fun k => k = p ∨ k = P) w (w1.setCell ⟨P, 7, none⟩ (.int .i64 s1.e)) := (hon.mono (fun k hk => .inl hk)).trans (hoS.mono (fun k hk => .inr hk))
    replace hrd1 := Lib.hid hrd1
    replace hbx1 := Lib.hid hbx1
    replace hbx2 := Lib.hid hbx2
    replace hrd2 := Lib.hid hrd2
    replace hoT := Lib.hid hoT
    replace hon := Lib.hid hon
    replace hoS := Lib.hid hoS
    go_wp2
    go_ret
    exact ⟨rfl, ⟨hbx2.out, hrd2.out⟩, hoT.out⟩
  · rw [if_neg hE]
    simp only
    replace hbx := Lib.hid hbx
    replace hrd := Lib.hid hrd
    replace ha := Lib.hid ha
    go_enter Tryd.func51, Tryd.ntmps51
    go_wp2
    go_ret
    exact ⟨rfl, ⟨hbx.out, hrd.out⟩, Only.refl _ _⟩
theorem dn_range {w : World} {P p q : Nat} {s : Oct.St} {E : Int} {mk : Bool} {v : Value} (h : DR w P p q s E mk v) : 0 ≤ (dn s E).1 ∧ (dn s E).1 ≤ 9007199254740991 := by
  unfold dn
  by_cases hE : E = 0
  · rw [if_pos hE]
    obtain ⟨_, A, n, c, _, _, h3, _⟩ := h
    exact numN h3
  · rw [if_neg hE]
    simp
/-- Six cells behind the first. -/
def row6 (w : World) (P : Nat) (v1 v2 v3 v4 v5 v6 : Value) : World := (((((w.setCell ⟨P, 1, none⟩ v1).setCell ⟨P, 2, none⟩ v2).setCell ⟨P, 3, none⟩ v3).setCell ⟨P, 4, none⟩ v4).setCell ⟨P, 5, none⟩ v5).setCell ⟨P, 6, none⟩ v6
theorem row6_only {w : World} {P : Nat} (v1 v2 v3 v4 v5 v6 : Value) : Only (· = P) w (row6 w P v1 v2 v3 v4 v5 v6) :=
  Only.set (F := (· = P)) (p := ⟨P, 6, none⟩) (Only.set (F := (· = P)) (p := ⟨P, 5, none⟩) (Only.set (F := (· = P)) (p := ⟨P, 4, none⟩) (Only.set (F := (· = P)) (p := ⟨P, 3, none⟩) (Only.set (F := (· = P)) (p := ⟨P, 2, none⟩) (Only.set (F := (· = P)) (p := ⟨P, 1, none⟩) (Only.refl _ w) rfl _) rfl _) rfl _) rfl _) rfl _) rfl _
/-- A range, of its greatest number. -/
def da (s : Oct.St) (E : Int) (acc : List (Int × Int)) (hi : Int) : Int × Oct.St × Int × List (Int × Int) :=
  if (dn s E).2.2 = 0 then (if hi < (dn s E).1 then (0, (dn s E).2.1, 50, acc) else (hi - (dn s E).1, (dn s E).2.1, 0, acc ++ [(hi - (dn s E).1, hi)])) else (0, (dn s E).2.1, (dn s E).2.2, acc)
/-- The reader and the ranges so far, in blocks of their own. -/
structure DA (w : World) (Bd P p q : Nat) (s : Oct.St) (E : Int) (mk : Bool) (acc : List (Int × Int)) : Prop where
  dr : ∃ v, DR w P p q s E mk v ∧ OwnS encR 36 2 w Bd v acc
  sz : Bd ≤ w.heap.size
structure Apb (Bd P p q : Nat) : Prop where
  ap : Apd P p q
  P : P < Bd
  p : p < Bd
  q : q < Bd
set_option maxHeartbeats 4000000 in
set_option maxRecDepth 100000 in
theorem dadd_any (Bd P p q : Nat) (s : Oct.St) (E : Int) (mk : Bool) (acc : List (Int × Int)) (hi : Int) (w : World) (h : DA w Bd P p q s E mk acc) (ha : Apb Bd P p q) (hh0 : 0 ≤ hi) (hh1 : hi ≤ 9007199254740991) (hac : acc.length ≤ 900) :
    Calls Tryd.prog 64 #[.pointer (some ⟨P, 0, none⟩), .int .i64 hi] w fun e w' => e = .returned (.int .i64 (da s E acc hi).1) ∧ DA w' Bd P p q (da s E acc hi).2.1 (da s E acc hi).2.2.1 mk (da s E acc hi).2.2.2 ∧ Only (fun k => k = p ∨ k = P ∨ Bd ≤ k) w w' := by
  obtain ⟨⟨v, hdr, hown⟩, hsz⟩ := h
  have hN := dnum_any P p q s E mk v w hdr ha.ap
  have hnr := dn_range hdr
  unfold da
  obtain ⟨n, s1, E1, hR⟩ : ∃ n s1 E1, dn s E = (n, s1, E1) := ⟨_, _, _, rfl⟩
  rw [hR] at hN hnr ⊢
  simp only at hN hnr ⊢
  have hP := ha.P
  have hp := ha.p
  have hq := ha.q
  replace hdr := Lib.hid hdr
  replace hown := Lib.hid hown
  replace ha := Lib.hid ha
  replace hR := Lib.hid hR
  by_cases hE : E1 = 0
  · subst hE
    rw [if_pos rfl]
    by_cases hlt : hi < n
    · rw [if_pos hlt]
      have hgt : n > hi := hlt
      go_enter Tryd.func64, Tryd.ntmps64
      go_wp2_with fail
      with_reducible refine hN.mono ?_
      clear hN
      rintro e w1 ⟨rfl, ⟨hbx, hrd⟩, hon⟩
      have hown1 := hown.out.only hon (fun g hg hf => by have := (hown.out.low g hg).1; omega)
      have c7 := hbx.cell 7
      have f7 := hbx.frozen 7
      simp at c7
      have hbx2 := hbx.set_ 7 (.int .i64 50)
      have hoS : Only (· = P) w1 (w1.setCell ⟨P, 7, none⟩ (.int .i64 50)) := Only.set (F := (· = P)) (p := ⟨P, 7, none⟩) (Only.refl _ w1) rfl _
      have hrd2 := hrd.only hoS (Ne.symm ha.out.ap.Pp) (Ne.symm ha.out.ap.Pq)
      have hown2 := hown1.only hoS (fun g hg hf => by have := (hown1.low g hg).1; omega)
      have hoT : Only (fun k => k = p ∨ k = P ∨ Bd ≤ k) w (w1.setCell ⟨P, 7, none⟩ (.int .i64 50)) := (hon.mono (fun k hk => by omega)).trans (hoS.mono (fun k hk => by omega))
      have hszT := Nat.le_trans hsz hoT.size
      replace hbx := Lib.hid hbx
      replace hrd := Lib.hid hrd
      replace hbx2 := Lib.hid hbx2
      replace hrd2 := Lib.hid hrd2
      replace hown2 := Lib.hid hown2
      replace hoT := Lib.hid hoT
      replace hon := Lib.hid hon
      replace hoS := Lib.hid hoS
      replace hown1 := Lib.hid hown1
      replace hszT := Lib.hid hszT
      go_wp2
      go_ret
      exact ⟨rfl, ⟨⟨v, ⟨hbx2.out, hrd2.out⟩, hown2.out⟩, hszT.out⟩, hoT.out⟩
    · rw [if_neg hlt]
      have hgt : ¬ n > hi := hlt
      have hw1 : IntKind.i64.wrap (hi - n) = hi - n := IntWalk.i64_in _ (by omega)
      go_enter Tryd.func64, Tryd.ntmps64
      go_wp2_with fail
      with_reducible refine hN.mono ?_
      clear hN
      rintro e w1 ⟨rfl, ⟨hbx, hrd⟩, hon⟩
      have hown1 := hown.out.only hon (fun g hg hf => by have := (hown.out.low g hg).1; omega)
      have hsz1 := Nat.le_trans hsz hon.size
      have c1 := hbx.cell 1
      have c2 := hbx.cell 2
      have c3 := hbx.cell 3
      have c4 := hbx.cell 4
      have c5 := hbx.cell 5
      have c6 := hbx.cell 6
      have c7 := hbx.cell 7
      simp at c1 c2 c3 c4 c5 c6 c7
      have hB2 := Blk.new w1 25 #[.int .i64 0, v, .bool mk, .int .i64 0, .int .i64 0, .int .i64 0]
      have hl2 := laterA (Below.refl w1.heap.size w1) (.cells #[.int .i64 0, v, .bool mk, .int .i64 0, .int .i64 0, .int .i64 0] 25)
      obtain ⟨A0, k0, cc0, rfl⟩ : ∃ A k c, v = .slice A k c := by
        obtain ⟨A, c, he, _⟩ := hown1.cells len_r
        exact ⟨A, _, c, he⟩
      have hown2 := hown1.later hl2
      have hbx2 := hbx.later hl2
      have hrd2 := hrd.later hl2
      have hsz2 := Nat.le_trans hsz1 hl2.size
      have hx3 := Blk.new (w1.alloc (.cells #[.int .i64 0, .slice A0 k0 cc0, .bool mk, .int .i64 0, .int .i64 0, .int .i64 0] 25)) 36 #[.int .i64 (hi - n), .int .i64 hi]
      have hl3 := laterA (Below.refl (w1.alloc (.cells #[.int .i64 0, .slice A0 k0 cc0, .bool mk, .int .i64 0, .int .i64 0, .int .i64 0] 25)).heap.size (w1.alloc (.cells #[.int .i64 0, .slice A0 k0 cc0, .bool mk, .int .i64 0, .int .i64 0, .int .i64 0] 25))) (.cells #[.int .i64 (hi - n), .int .i64 hi] 36)
      rw [World.size_alloc] at hx3
      have hown3 := hown2.later hl3
      have hbx3 := hbx2.later hl3
      have hrd3 := hrd2.later hl3
      have hB3 := hB2.later hl3
      have hsz3 := Nat.le_trans hsz2 hl3.size
      have a1 := hB2.cell 1
      have f1 := hB2.frozen 1
      simp at a1
      have hBd : Bd ≤ w1.heap.size := hsz1
      replace hbx := Lib.hid hbx
      replace hrd := Lib.hid hrd
      replace hon := Lib.hid hon
      replace hB2 := Lib.hid hB2
      replace hl2 := Lib.hid hl2
      replace hbx2 := Lib.hid hbx2
      replace hrd2 := Lib.hid hrd2
      replace hl3 := Lib.hid hl3
      replace hbx3 := Lib.hid hbx3
      replace hrd3 := Lib.hid hrd3
      replace hB3 := Lib.hid hB3
      replace hown1 := Lib.hid hown1
      replace hown2 := Lib.hid hown2
      go_wp2_with (at_builtin; refine wpList_ows (enc := encR) (e := 36) (size := 2) (B := Bd) (l := acc) rfl _ _ 22 rfl Tryd.underlying22 range_info rfl (by omega) (by omega) (w1.heap.size + 1) (hi - n, hi) rfl rfl hown3 hx3 rfl (one_r _) hsz3 (by omega) ?_)
      intro v3 w5 hown4 hg4 hv3
      obtain ⟨A3, k3, c3', rfl⟩ : ∃ A k c, v3 = .slice A k c := by
        obtain ⟨A, c, he, _⟩ := hown4.cells len_r
        exact ⟨A, _, c, he⟩
      have hB4 := blkS_row hB3.out hown3 hg4 (by decide)
      have hbx4 := blkS_row hbx3.out hown3 hg4 (by decide)
      have hg5 := Only.of_row hg4
      have hrd4 := hrd3.out.only hg5 (fun hf => by have := (hown3.low p hf).1; omega) (fun hf => by have := (hown3.low q hf).1; omega)
      have hPB : P ≠ w1.heap.size := by omega
      have hoS : Only (· = w1.heap.size) w5 (w5.setCell ⟨w1.heap.size, 1, none⟩ (.slice A3 k3 c3')) := Only.set (F := (· = w1.heap.size)) (p := ⟨w1.heap.size, 1, none⟩) (Only.refl _ w5) rfl _
      have hBS := hB4.set_ 1 (.slice A3 k3 c3')
      have hbx5 := hbx4.only hoS hPB
      have hrd5 := hrd4.only hoS (by omega) (by omega)
      have hown5 := hown4.only hoS (fun g hg hf => by subst hf; exact OwnS.ne hown4 hB4 (by decide) hg)
      obtain ⟨W5, hW5⟩ : ∃ W, w5.setCell ⟨w1.heap.size, 1, none⟩ (.slice A3 k3 c3') = W := ⟨_, rfl⟩
      have e1 := hB4.cell 1
      have e1' := hB4.frozen 1
      rw [hW5] at hBS hbx5 hrd5 hown5 hoS
      have z0 := hBS.cell 0
      have z1 := hBS.cell 1
      have z2 := hBS.cell 2
      have z3 := hBS.cell 3
      have z4 := hBS.cell 4
      have z5 := hBS.cell 5
      have u1 := hbx5.cell 1
      have u2 := hbx5.cell 2
      have u3 := hbx5.cell 3
      have u4 := hbx5.cell 4
      have u5 := hbx5.cell 5
      have u6 := hbx5.cell 6
      have t1 := hbx5.frozen 1
      have t2 := hbx5.frozen 2
      have t3 := hbx5.frozen 3
      have t4 := hbx5.frozen 4
      have t5 := hbx5.frozen 5
      have t6 := hbx5.frozen 6
      simp at e1 z0 z1 z2 z3 z4 z5 u1 u2 u3 u4 u5 u6
      have hbxF := (((((hbx5.set_ 1 (.int .i64 0)).set_ 2 (.slice A3 k3 c3')).set_ 3 (.bool mk)).set_ 4 (.int .i64 0)).set_ 5 (.int .i64 0)).set_ 6 (.int .i64 0)
      have hoF := row6_only (w := W5) (P := P) (.int .i64 0) (.slice A3 k3 c3') (.bool mk) (.int .i64 0) (.int .i64 0) (.int .i64 0)
      have hrdF := hrd5.only hoF (Ne.symm ha.out.ap.Pp) (Ne.symm ha.out.ap.Pq)
      have hownF := hown5.only hoF (fun g hg hf => by have := (hown5.low g hg).1; omega)
      have hoT : Only (fun k => k = p ∨ k = P ∨ Bd ≤ k) w (row6 W5 P (.int .i64 0) (.slice A3 k3 c3') (.bool mk) (.int .i64 0) (.int .i64 0) (.int .i64 0)) :=
        ((((hon.out.mono (fun k hk => by omega)).trans ((Only.of_below hl2.out).trans (Only.of_below hl3.out))).trans (hg5.mono (fun k hk => .inr (.inr (hown3.low k hk).1)))).trans (hoS.mono (fun k hk => by omega))).trans (hoF.mono (fun k hk => by omega))
      have hszF := Nat.le_trans hsz hoT.size
      replace hB4 := Lib.hid hB4
      replace hbx4 := Lib.hid hbx4
      replace hrd4 := Lib.hid hrd4
      replace hBS := Lib.hid hBS
      replace hbx5 := Lib.hid hbx5
      replace hrd5 := Lib.hid hrd5
      replace hown5 := Lib.hid hown5
      replace hoS := Lib.hid hoS
      replace hbxF := Lib.hid hbxF
      replace hrdF := Lib.hid hrdF
      replace hownF := Lib.hid hownF
      replace hoT := Lib.hid hoT
      replace hszF := Lib.hid hszF
      replace hoF := Lib.hid hoF
      clear hg4 hg5 hown3 hv3 hown4 hbx3 hrd3 hB3 hx3 a1 f1
      go_wp2
      go_ret
      exact ⟨rfl, ⟨⟨_, ⟨hbxF.out, hrdF.out⟩, hownF.out⟩, hszF.out⟩, hoT.out⟩
  · rw [if_neg hE]
    go_enter Tryd.func64, Tryd.ntmps64
    go_wp2_with fail
    with_reducible refine hN.mono ?_
    clear hN
    rintro e w1 ⟨rfl, ⟨hbx, hrd⟩, hon⟩
    have hown1 := hown.out.only hon (fun g hg hf => by have := (hown.out.low g hg).1; omega)
    have c7 := hbx.cell 7
    simp at c7
    have hszT := Nat.le_trans hsz hon.size
    have hoT : Only (fun k => k = p ∨ k = P ∨ Bd ≤ k) w w1 := hon.mono (fun k hk => by omega)
    replace hbx := Lib.hid hbx
    replace hrd := Lib.hid hrd
    replace hown1 := Lib.hid hown1
    replace hoT := Lib.hid hoT
    replace hon := Lib.hid hon
    replace hszT := Lib.hid hszT
    go_wp2
    go_ret
    exact ⟨rfl, ⟨⟨v, ⟨hbx.out, hrd.out⟩, hown1.out⟩, hszT.out⟩, hoT.out⟩
/-- The ranges behind the first. -/
def dr2 : Nat → Int → Oct.St → Int → List (Int × Int) → Oct.St × Int × List (Int × Int)
  | 0, _, s, E, acc => (s, E, acc)
  | m + 1, lo, s, E, acc =>
    if E = 0 then
      if (dn s 0).2.2 = 0 then
        if lo - 2 < (dn s 0).1 then ((dn s 0).2.1, 50, acc)
        else dr2 m (da (dn s 0).2.1 0 acc (lo - 2 - (dn s 0).1)).1 (da (dn s 0).2.1 0 acc (lo - 2 - (dn s 0).1)).2.1 (da (dn s 0).2.1 0 acc (lo - 2 - (dn s 0).1)).2.2.1 (da (dn s 0).2.1 0 acc (lo - 2 - (dn s 0).1)).2.2.2
      else ((dn s 0).2.1, (dn s 0).2.2, acc)
    else (s, E, acc)
theorem dr2_err (m : Nat) (lo : Int) (s : Oct.St) {E : Int} (h : E ≠ 0) (acc : List (Int × Int)) : dr2 m lo s E acc = (s, E, acc) := by
  cases m with
  | zero => rfl
  | succ m => simp [dr2, h]
theorem da_len (s : Oct.St) (E : Int) (acc : List (Int × Int)) (hi : Int) : (da s E acc hi).2.2.2.length ≤ acc.length + 1 := by
  unfold da
  split
  · split <;> simp
  · simp
theorem da_range {s : Oct.St} {E : Int} {acc : List (Int × Int)} {hi : Int} (h0 : 0 ≤ hi) (h1 : hi ≤ 9007199254740991) (hn : 0 ≤ (dn s E).1) : 0 ≤ (da s E acc hi).1 ∧ (da s E acc hi).1 ≤ 9007199254740991 := by
  unfold da
  split
  · split
    · simp
    · simp only
      omega
  · simp
theorem Only.far {F G : Nat → Prop} {a b c : World} (h : Only F a b) (k : Only G b c) (hs : ∀ i, G i → F i) : Only F a c := h.trans (k.mono hs)
set_option maxHeartbeats 4000000 in
set_option maxRecDepth 100000 in
theorem dranges_any (Bd P p q : Nat) (s : Oct.St) (E : Int) (mk : Bool) (hi : Int) (more : Nat) (w : World) (h : DA w Bd P p q s E mk []) (ha : Apb Bd P p q) (hh0 : 0 ≤ hi) (hh1 : hi ≤ 9007199254740991) (hm : more ≤ 9007199254740991) (hme : E = 0 → more < 256) :
    Calls Tryd.prog 52 #[.pointer (some ⟨P, 0, none⟩), .int .i64 hi, .int .i64 (more : Int)] w fun e w' => (∃ r, e = .returned r) ∧ ∃ s' E' acc', dr2 more (da s E [] hi).1 (da s E [] hi).2.1 (da s E [] hi).2.2.1 (da s E [] hi).2.2.2 = (s', E', acc') ∧ DA w' Bd P p q s' E' mk acc' ∧ acc'.length ≤ 257 ∧ Only (fun k => k = p ∨ k = P ∨ Bd ≤ k) w w' := by
  have hA := dadd_any Bd P p q s E mk [] hi w h ha hh0 hh1 (by simp)
  have hdn : 0 ≤ (dn s E).1 := by obtain ⟨⟨v, hdr, _⟩, _⟩ := h; exact (dn_range hdr).1
  have hr := da_range (acc := []) hh0 hh1 hdn
  have hl := da_len s E [] hi
  have hE0 : (da s E [] hi).2.2.1 = 0 → E = 0 := by
    unfold da dn
    by_cases hE : E = 0
    · exact fun _ => hE
    · rw [if_neg hE, if_neg hE]
      exact fun hx => absurd hx hE
  obtain ⟨lo0, s0, E0, acc0, hR⟩ : ∃ a b c d, da s E [] hi = (a, b, c, d) := ⟨_, _, _, _, rfl⟩
  rw [hR] at hA hr hl hE0 ⊢
  simp only at hA hr hl hE0 ⊢
  obtain ⟨F, hF⟩ : ∃ F, dr2 more lo0 s0 E0 acc0 = F := ⟨_, rfl⟩
  rw [hF]
  have hme2 : E0 = 0 → more < 256 := fun hx => hme (hE0 hx)
  clear hE0 hme h hdn
  replace ha := Lib.hid ha
  replace hF := Lib.hid hF
  replace hme2 := Lib.hid hme2
  replace hR := Lib.hid hR
  go_enter Tryd.func52, Tryd.ntmps52
  go_wp2_with fail
  with_reducible refine hA.mono ?_
  clear hA
  rintro e w1 ⟨rfl, hD, hon⟩
  replace hD := Lib.hid hD
  replace hon := Lib.hid hon
  go_wp2_with fail
  go_loopw [6, 7] (fun lv iv wr => ∃ (k : Nat) (lo : Int) (s1 : Oct.St) (E1 : Int) (acc : List (Int × Int)), lv = .int .i64 lo ∧ iv = .int .i64 k ∧ k ≤ more ∧ 0 ≤ lo ∧ lo ≤ 9007199254740991 ∧ acc.length ≤ k + 1 ∧ (E1 = 0 → more < 256) ∧ acc.length ≤ 257 ∧ DA wr Bd P p q s1 E1 mk acc ∧ dr2 (more - k) lo s1 E1 acc = F ∧ Only (fun k => k = p ∨ k = P ∨ Bd ≤ k) w wr) (fun _ iv _ => more - (intOf iv).toNat)
  case atStart => exact ⟨0, lo0, s0, E0, acc0, rfl, rfl, Nat.zero_le _, hr.1, hr.2, by simpa using hl, hme2.out, by simp at hl; omega, hD.out, hF.out, hon.out⟩
  case round =>
    obtain ⟨k, lo, s1, E1, acc, rfl, rfl, hk, hlo0, hlo1, hal, hem, hal2, hD1, hd, hon1⟩ := hrel
    obtain ⟨⟨v, hdr, hown⟩, hsz⟩ := hD1
    have c7 := hdr.bx.cell 7
    simp at c7
    by_cases hkm : k < more
    · have hki : (k : Int) < (more : Int) := by omega
      have hwk : IntKind.i64.wrap ((k : Int) + 1) = (k : Int) + 1 := IntWalk.i64_in _ (by omega)
      by_cases hE : E1 = 0
      · subst hE
        have hN := dnum_any P p q s1 0 mk v wr hdr ha.out.ap
        have hnr := dn_range hdr
        rw [show more - k = (more - (k + 1)) + 1 by omega] at hd
        unfold dr2 at hd
        rw [if_pos rfl] at hd
        obtain ⟨gp, s2, E2, hR2⟩ : ∃ a b c, dn s1 0 = (a, b, c) := ⟨_, _, _, rfl⟩
        rw [hR2] at hN hnr hd
        simp only at hN hnr hd
        have hw2 : IntKind.i64.wrap (lo - 2) = lo - 2 := IntWalk.i64_in _ (by omega)
        have hw3 : IntKind.i64.wrap (lo - 2 - gp) = lo - 2 - gp := IntWalk.i64_in _ (by omega)
        have hPd := ha.out.P
        have hpd := ha.out.p
        have hqd := ha.out.q
        replace hown := Lib.hid hown
        replace hon1 := Lib.hid hon1
        replace hdr := Lib.hid hdr
        go_wp2_with fail
        with_reducible refine hN.mono ?_
        clear hN c7
        rintro e w2 ⟨rfl, hdr2, hon2⟩
        have hown2 := hown.out.only hon2 (fun g hg hf => by have := (hown.out.low g hg).1; omega)
        have hsz2 := Nat.le_trans hsz hon2.size
        have hon2' := hon1.out.far hon2 (fun i hi => by omega)
        have c7 := hdr2.bx.cell 7
        have f7 := hdr2.bx.frozen 7
        simp at c7
        by_cases hE2 : E2 = 0
        · subst hE2
          rw [if_pos rfl] at hd
          by_cases hlt : lo - 2 < gp
          · rw [if_pos hlt] at hd
            have hgt : gp > lo - 2 := hlt
            have hbx3 := hdr2.bx.set_ 7 (.int .i64 50)
            have hoS : Only (· = P) w2 (w2.setCell ⟨P, 7, none⟩ (.int .i64 50)) := Only.set (F := (· = P)) (p := ⟨P, 7, none⟩) (Only.refl _ w2) rfl _
            have hrd3 := hdr2.rd.only hoS (Ne.symm ha.out.ap.Pp) (Ne.symm ha.out.ap.Pq)
            have hown3 := hown2.only hoS (fun g hg hf => by have := (hown2.low g hg).1; omega)
            have hon3 := hon2'.far hoS (fun i hi => by omega)
            have hsz3 := Nat.le_trans hsz2 hoS.size
            replace hd := Lib.hid hd
            replace hdr2 := Lib.hid hdr2
            replace hown2 := Lib.hid hown2
            replace hon2' := Lib.hid hon2'
            replace hbx3 := Lib.hid hbx3
            replace hoS := Lib.hid hoS
            replace hrd3 := Lib.hid hrd3
            replace hown3 := Lib.hid hown3
            replace hon3 := Lib.hid hon3
            replace hon2 := Lib.hid hon2
            replace hsz3 := Lib.hid hsz3
            go_wp2
            go_roundw
            case rel => exact ⟨k + 1, lo, s2, 50, acc, rfl, by simp, by omega, hlo0, hlo1, by omega, by omega, hal2, ⟨⟨v, ⟨hbx3.out, hrd3.out⟩, hown3.out⟩, hsz3.out⟩, by rw [dr2_err _ _ _ (by omega)]; exact hd.out, hon3.out⟩
            case measure => simp [intOf]; omega
          · rw [if_neg hlt] at hd
            have hgt : ¬ gp > lo - 2 := hlt
            have hAd := dadd_any Bd P p q s2 0 mk acc (lo - 2 - gp) w2 ⟨⟨v, hdr2, hown2⟩, hsz2⟩ ha.out (by omega) (by omega) (by omega)
            have hr2 := da_range (acc := acc) (s := s2) (E := 0) (hi := lo - 2 - gp) (by omega) (by omega) (dn_range hdr2).1
            have hl2 := da_len s2 0 acc (lo - 2 - gp)
            obtain ⟨lo3, s3, E3, acc3, hR3⟩ : ∃ a b c d, da s2 0 acc (lo - 2 - gp) = (a, b, c, d) := ⟨_, _, _, _, rfl⟩
            rw [hR3] at hAd hr2 hl2 hd
            simp only at hAd hr2 hl2 hd
            replace hd := Lib.hid hd
            replace hdr2 := Lib.hid hdr2
            replace hown2 := Lib.hid hown2
            replace hon2' := Lib.hid hon2'
            replace hon2 := Lib.hid hon2
            go_wp2_with fail
            with_reducible refine hAd.mono ?_
            clear hAd c7 f7
            rintro e w3 ⟨rfl, hD3, hon3⟩
            have hon4 := hon2'.out.trans hon3
            replace hD3 := Lib.hid hD3
            replace hon3 := Lib.hid hon3
            replace hon4 := Lib.hid hon4
            go_wp2
            go_roundw
            case rel => exact ⟨k + 1, lo3, s3, E3, acc3, rfl, by simp, by omega, hr2.1, hr2.2, by omega, fun _ => hem trivial, by have := hem trivial; omega, hD3.out, hd.out, hon4.out⟩
            case measure => simp [intOf]; omega
        · rw [if_neg hE2] at hd
          replace hd := Lib.hid hd
          replace hdr2 := Lib.hid hdr2
          replace hown2 := Lib.hid hown2
          replace hon2' := Lib.hid hon2'
          replace hon2 := Lib.hid hon2
          go_wp2
          go_roundw
          case rel => exact ⟨k + 1, lo, s2, E2, acc, rfl, by simp, by omega, hlo0, hlo1, by omega, fun hx => absurd hx hE2, hal2, ⟨⟨v, hdr2.out, hown2.out⟩, hsz2⟩, by rw [dr2_err _ _ _ hE2]; exact hd.out, hon2'.out⟩
          case measure => simp [intOf]; omega
      · have hfin := hd
        rw [dr2_err _ _ _ hE] at hfin
        replace hd := Lib.hid hd
        replace hdr := Lib.hid hdr
        replace hown := Lib.hid hown
        replace hon1 := Lib.hid hon1
        replace hfin := Lib.hid hfin
        go_wp2
        go_end0
        exact ⟨⟨_, rfl⟩, _, _, _, hfin.out.symm, ⟨⟨v, hdr.out, hown.out⟩, hsz⟩, hal2, hon1.out⟩
    · obtain rfl : k = more := by omega
      rw [Nat.sub_self] at hd
      replace hd := Lib.hid hd
      replace hdr := Lib.hid hdr
      replace hown := Lib.hid hown
      replace hon1 := Lib.hid hon1
      go_wp2
      go_end0
      exact ⟨⟨_, rfl⟩, _, _, _, hd.out.symm, ⟨⟨v, hdr.out, hown.out⟩, hsz⟩, hal2, hon1.out⟩
theorem st_eta {s : Oct.St} (h : s.e = 0) : s = ⟨s.l, 0⟩ := by
  obtain ⟨l, e⟩ := s
  simp only at h
  subst h
  rfl
theorem da_zero (l : List Int) (acc : List (Int × Int)) (hi : Int) : da ⟨l, 0⟩ 0 acc hi =
    if (Oct.numL l).2.e = 0 then (if hi < (Oct.numL l).1 then (0, (Oct.numL l).2, 50, acc) else (hi - (Oct.numL l).1, (Oct.numL l).2, 0, acc ++ [(hi - (Oct.numL l).1, hi)])) else (0, (Oct.numL l).2, (Oct.numL l).2.e, acc) := by
  unfold da dn
  rw [if_pos rfl]
  rfl
/-- The document's ranges answer as ours. -/
theorem dr2_rg : ∀ (m : Nat) (hi : Int) (l : List Int) (acc : List (Int × Int)),
    (match Frm.rg m hi l with
      | .error e => (dr2 m (da ⟨l, 0⟩ 0 acc hi).1 (da ⟨l, 0⟩ 0 acc hi).2.1 (da ⟨l, 0⟩ 0 acc hi).2.2.1 (da ⟨l, 0⟩ 0 acc hi).2.2.2).2.1 = e
      | .ok (rs, r) => dr2 m (da ⟨l, 0⟩ 0 acc hi).1 (da ⟨l, 0⟩ 0 acc hi).2.1 (da ⟨l, 0⟩ 0 acc hi).2.2.1 (da ⟨l, 0⟩ 0 acc hi).2.2.2 = (⟨r, 0⟩, 0, acc ++ rs))
  | m, hi, l, acc => by
    rw [da_zero]
    by_cases h1 : (Oct.numL l).2.e = 0
    · rw [if_pos h1]
      by_cases h2 : hi < (Oct.numL l).1
      · rw [if_pos h2]
        have hr : Frm.rg m hi l = .error 50 := by unfold Frm.rg; rw [if_pos h1, if_pos h2]
        rw [hr]
        simp only
        rw [dr2_err _ _ _ (by omega)]
      · rw [if_neg h2]
        cases m with
        | zero =>
          have hr : Frm.rg 0 hi l = .ok ([(hi - (Oct.numL l).1, hi)], (Oct.numL l).2.l) := by unfold Frm.rg; rw [if_pos h1, if_neg h2]
          rw [hr]
          simp only [dr2]
          rw [← st_eta h1]
        | succ m =>
          have hr : Frm.rg (m + 1) hi l = if (Oct.numL (Oct.numL l).2.l).2.e = 0 then
              (if hi - ((Oct.numL l).1 + 2 + (Oct.numL (Oct.numL l).2.l).1) < 0 then .error 50
                else match Frm.rg m (hi - ((Oct.numL l).1 + 2 + (Oct.numL (Oct.numL l).2.l).1)) (Oct.numL (Oct.numL l).2.l).2.l with
                  | .error e => .error e
                  | .ok (rs, r) => .ok ((hi - (Oct.numL l).1, hi) :: rs, r))
              else .error (Oct.numL (Oct.numL l).2.l).2.e := by
            conv => lhs; unfold Frm.rg
            rw [if_pos h1, if_neg h2]
            rfl
          rw [hr]
          have hs := st_eta h1
          generalize (Oct.numL l).1 = n at *
          simp only
          rw [hs]
          generalize (Oct.numL l).2.l = l1 at *
          clear hr h1 hs
          have hn : dn ⟨l1, 0⟩ 0 = ((Oct.numL l1).1, (Oct.numL l1).2, (Oct.numL l1).2.e) := by unfold dn; rw [if_pos rfl]; rfl
          by_cases h3 : (Oct.numL l1).2.e = 0
          · rw [if_pos h3]
            have hs3 := st_eta h3
            by_cases h4 : hi - (n + 2 + (Oct.numL l1).1) < 0
            · rw [if_pos h4]
              simp only [dr2, hn]
              rw [if_pos trivial, if_pos h3, if_pos (by omega)]
            · rw [if_neg h4]
              have ih := dr2_rg m (hi - (n + 2 + (Oct.numL l1).1)) (Oct.numL l1).2.l (acc ++ [(hi - n, hi)])
              have he : dr2 (m + 1) (hi - n) ⟨l1, 0⟩ 0 (acc ++ [(hi - n, hi)]) = dr2 m (da ⟨(Oct.numL l1).2.l, 0⟩ 0 (acc ++ [(hi - n, hi)]) (hi - (n + 2 + (Oct.numL l1).1))).1 (da ⟨(Oct.numL l1).2.l, 0⟩ 0 (acc ++ [(hi - n, hi)]) (hi - (n + 2 + (Oct.numL l1).1))).2.1 (da ⟨(Oct.numL l1).2.l, 0⟩ 0 (acc ++ [(hi - n, hi)]) (hi - (n + 2 + (Oct.numL l1).1))).2.2.1 (da ⟨(Oct.numL l1).2.l, 0⟩ 0 (acc ++ [(hi - n, hi)]) (hi - (n + 2 + (Oct.numL l1).1))).2.2.2 := by
                conv => lhs; unfold dr2
                rw [if_pos rfl, hn]
                simp only
                rw [if_pos h3, if_neg (by omega), ← hs3, show hi - n - 2 - (Oct.numL l1).1 = hi - (n + 2 + (Oct.numL l1).1) by omega]
              rw [he]
              cases hx : Frm.rg m (hi - (n + 2 + (Oct.numL l1).1)) (Oct.numL l1).2.l with
              | error e =>
                rw [hx] at ih
                exact ih
              | ok x =>
                obtain ⟨rs, r⟩ := x
                rw [hx] at ih
                simp only at ih ⊢
                rw [ih]
                simp
          · rw [if_neg h3]
            simp only [dr2, hn]
            rw [if_pos trivial, if_neg h3]
    · rw [if_neg h1]
      have hr : Frm.rg m hi l = .error (Oct.numL l).2.e := by unfold Frm.rg; rw [if_neg h1]
      rw [hr]
      simp only
      rw [dr2_err _ _ _ h1]
set_option maxHeartbeats 2000000 in
set_option maxRecDepth 100000 in
theorem dnext_nil (A : Option Addr) (c : Nat) (w : World) : Calls Tryd.prog 27 #[.slice A 0 c] w (AckN w (Frm.nxt [])) := by
  have hbx := Blk.new w 25 #[.int .i64 0, .slice none 0 0, .bool false, .int .i64 0, .int .i64 0, .int .i64 0]
  go_enter Tryd.func27, Tryd.ntmps27
  go_wp2_with fail
  have hlo := laterA (Below.refl w.heap.size w) (.cells #[.int .i64 0, .slice none 0 0, .bool false, .int .i64 0, .int .i64 0, .int .i64 0] 25)
  generalize w.alloc (.cells #[.int .i64 0, .slice none 0 0, .bool false, .int .i64 0, .int .i64 0, .int .i64 0] 25) = W at hbx hlo ⊢
  refine bodyPost_ret (results_c3 rfl _ _ rfl hbx rfl) rfl ?_
  exact ⟨none, 0, 0, rfl, Rg.zero, no_addr, hlo⟩
set_option maxHeartbeats 2000000 in
set_option maxRecDepth 100000 in
theorem dnext_bad (t : Int) (ht : ¬ (t = 2 ∨ t = 3)) (A : Option Addr) (n c q0 : Nat) (l : List Int) (w : World) (h : Sl w q0 A n c (t :: l)) :
    Calls Tryd.prog 27 #[.slice A n c] w (AckN w (Frm.nxt (t :: l))) := by
  have hn := h.1
  obtain ⟨off, rfl, hq0, ht0⟩ : ∃ off, A = some ⟨q0, off, none⟩ ∧ q0 < w.heap.size ∧ w.cell? ⟨q0, off, none⟩ = some (.int .u8 t) := by
    obtain ⟨h1, h2, h3, ⟨_, h4, _⟩ | ⟨off, rfl, hq, h5⟩⟩ := h
    · rw [h4] at h1; simp at h1
    · exact ⟨off, rfl, hq, by have := h5 0 (by simp); simpa using this⟩
  have hpos : (0 : Int) < (n : Int) := by rw [← hn]; simp
  have hbx := Blk.new w 25 #[.int .i64 0, .slice none 0 0, .bool false, .int .i64 0, .int .i64 0, .int .i64 0]
  have hX : Frm.nxt (t :: l) = (Frm.zero, 0, 50) := by rw [nxt_cons, if_neg ht]
  rw [hX]
  have hposn : 0 < n := by omega
  have b2 : (t != 2) = true := by simp; exact fun h => ht (.inl h)
  have b3 : (t != 3) = true := by simp; exact fun h => ht (.inr h)
  clear ht h hX hn
  replace hbx := Lib.hid hbx
  go_enter Tryd.func27, Tryd.ntmps27
  go_wp2_with fail
  replace hbx := hbx.out
  have hlo := laterA (Below.refl w.heap.size w) (.cells #[.int .i64 0, .slice none 0 0, .bool false, .int .i64 0, .int .i64 0, .int .i64 0] 25)
  generalize w.alloc (.cells #[.int .i64 0, .slice none 0 0, .bool false, .int .i64 0, .int .i64 0, .int .i64 0] 25) = W at hbx hlo ⊢
  refine bodyPost_ret (results_c3 rfl _ _ rfl hbx rfl) rfl ?_
  exact ⟨none, 0, 0, rfl, Rg.zero, no_addr, hlo⟩
theorem nxt_bad2 (b : List Int) (h : (Frm.nxt b).2.2 ≠ 0) : (Frm.nxt b).1 = Frm.zero ∧ (Frm.nxt b).2.1 = 0 := by
  cases b with
  | nil => exact ⟨rfl, rfl⟩
  | cons t l =>
    rw [nxt_cons] at h ⊢
    split
    · rename_i ht
      rw [if_pos ht] at h
      cases hx : Frm.body (decide (t = 3)) l with
      | error e => exact ⟨rfl, rfl⟩
      | ok x =>
        obtain ⟨a, r⟩ := x
        rw [hx] at h
        exact absurd rfl h
    · exact ⟨rfl, rfl⟩
set_option maxHeartbeats 2000000 in
set_option maxRecDepth 100000 in
theorem dparse_of (A : Option Addr) (n c q0 : Nat) (l : List Int) (w : World) (h : Sl w q0 A n c l) (hD : ∀ W, Sl W q0 A n c l → Calls Tryd.prog 27 #[.slice A n c] W (AckN W (Frm.nxt l))) :
    Calls Tryd.prog 29 #[.slice A n c] w (Ack1 w (Frm.parse l)) := by
  have hbx := Blk.new w 25 #[.int .i64 0, .slice none 0 0, .bool false, .int .i64 0, .int .i64 0, .int .i64 0]
  have hlo := laterA (Below.refl w.heap.size w) (.cells #[.int .i64 0, .slice none 0 0, .bool false, .int .i64 0, .int .i64 0, .int .i64 0] 25)
  have hN := hD _ (h.later hlo)
  have hbad := nxt_bad2 l
  obtain ⟨a, k, err, hx⟩ : ∃ a k err, Frm.nxt l = (a, k, err) := ⟨_, _, _, rfl⟩
  have hP : Frm.parse l = if err = 0 then (if k < (n : Int) then (Frm.zero, 4) else (a, 0)) else (a, err) := by
    unfold Frm.parse
    rw [hx, ← h.1]
  rw [hx] at hN hbad
  simp only at hbad
  obtain ⟨P, hPP⟩ : ∃ P, Frm.parse l = P := ⟨_, rfl⟩
  rw [hPP] at hP ⊢
  clear hPP hx h
  replace hbx := Lib.hid hbx
  replace hlo := Lib.hid hlo
  replace hP := Lib.hid hP
  go_enter Tryd.func29, Tryd.ntmps29
  go_wp2_with fail
  with_reducible refine hN.mono ?_
  rintro e w1 ⟨A1, n1, c1, rfl, hrg, hfr, hb1⟩
  clear hN
  simp only [av]
  obtain ⟨d, rs, mk, m0, m1, m2⟩ := a
  have hbx1 := hbx.out.later hb1
  have hlo1 := old_later2 hlo.out hb1 (by simp)
  have hb2 := laterA (Below.refl w1.heap.size w1) (.cells #[.int .i64 d, .slice A1 n1 c1, .bool mk, .int .i64 m0, .int .i64 m1, .int .i64 m2] 25)
  have hbx2 := hbx1.later hb2
  have hlt := hbx1.lt
  have hlo2 := old_later2 hlo1 hb2 hlo1.size
  have hbn := Blk.new w1 25 #[.int .i64 d, .slice A1 n1 c1, .bool mk, .int .i64 m0, .int .i64 m1, .int .i64 m2]
  have hrg2 := hrg.later hb2
  obtain ⟨W, hW⟩ : ∃ W, w1.alloc (.cells #[.int .i64 d, .slice A1 n1 c1, .bool mk, .int .i64 m0, .int .i64 m1, .int .i64 m2] 25) = W := ⟨_, rfl⟩
  rw [hW] at hbx2 hlo2 hbn hrg2
  have c1 := hbx2.cell 0
  have c2 := hbx2.cell 1
  have c3 := hbx2.cell 2
  have c4 := hbx2.cell 3
  have c5 := hbx2.cell 4
  have c6 := hbx2.cell 5
  have e1 := hbx2.frozen 0
  have e2 := hbx2.frozen 1
  have e3 := hbx2.frozen 2
  have e4 := hbx2.frozen 3
  have e5 := hbx2.frozen 4
  have e6 := hbx2.frozen 5
  have d1 := hbn.cell 0
  have d2 := hbn.cell 1
  have d3 := hbn.cell 2
  have d4 := hbn.cell 3
  have d5 := hbn.cell 4
  have d6 := hbn.cell 5
  simp at c1 c2 c3 c4 c5 c6 d1 d2 d3 d4 d5 d6
  replace hrg := Lib.hid hrg
  replace hbx1 := Lib.hid hbx1
  replace hlo1 := Lib.hid hlo1
  replace hbx2 := Lib.hid hbx2
  replace hlo2 := Lib.hid hlo2
  replace hbn := Lib.hid hbn
  replace hrg2 := Lib.hid hrg2
  clear hbx hlo hb1 hb2
  have hfr2 : ∀ a, A1 = some a → w.heap.size + 1 ≤ a.block := by simpa using hfr
  replace hfr2 := Lib.hid hfr2
  clear hfr
  by_cases he : err = 0
  · by_cases hk : k < (n : Int)
    · go_wp2_with fail
      refine bodyPost_ret (results_c2 rfl _ _ rfl (six_blk hbx2.out) rfl) rfl ?_
      have hPe : P = (Frm.zero, 4) := by rw [hP.out, if_pos he, if_pos hk]
      rw [hPe]
      exact ⟨none, 0, 0, rfl, Rg.zero, no_addr, six_low hlo2.out⟩
    · go_wp2_with fail
      refine bodyPost_ret (results_c2 rfl _ _ rfl (six_blk hbx2.out) rfl) rfl ?_
      have hPe : P = (⟨d, rs, mk, m0, m1, m2⟩, 0) := by rw [hP.out, if_pos he, if_neg (Int.not_lt.2 hk)]
      rw [hPe]
      exact ⟨_, _, _, rfl, hrg2.out.only six_only (fun a ha => by have := hfr2.out a ha; omega), fun a ha => by have := hfr2.out a ha; omega, six_low hlo2.out⟩
  · have haz := hbad he
    have hPe : P = (Frm.zero, err) := by rw [hP.out, if_neg he, haz.1]
    clear hbad haz
    replace hPe := Lib.hid hPe
    go_wp2_with fail
    refine bodyPost_ret (results_c2 rfl _ _ rfl (six_blk hbx2.out) rfl) rfl ?_
    rw [hPe.out]
    exact ⟨none, 0, 0, rfl, Rg.zero, no_addr, six_low hlo2.out⟩
end Go.Proofs.YtpagdcobhbkabaaDoor
