/-
  Layer 5: ranges in memory; which ACKs are the same.
-/
import Derived.Test.YtpagdcobhbkabaaDoorFrA
import Derived.Test.YtpagdcobhbkabaaDoorOctX
import Derived.BigQuiet
namespace Go.Proofs.YtpagdcobhbkabaaDoor
open Go.RowKit Go.Sort Go.Shelf Go.Deep Go.WideShapes

/-- A slice of ranges in plain memory. -/
def Rg (w : World) (A : Option Addr) (n c : Nat) (rs : List (Int × Int)) : Prop :=
  rs.length = n ∧ n ≤ c ∧ c ≤ maxLen ∧ ((A = none ∧ n = 0 ∧ c = 0) ∨ ∃ q off, A = some ⟨q, off, none⟩ ∧ q < w.heap.size ∧ ∀ k (hk : k < rs.length), w.cell? ⟨q, off + k * 2, none⟩ = some (.int .i64 rs[k].1) ∧ w.cell? ⟨q, off + k * 2 + 1, none⟩ = some (.int .i64 rs[k].2))
theorem Rg.later {w w' : World} {A : Option Addr} {n c : Nat} {rs : List (Int × Int)} (h : Rg w A n c rs) (hb : Below w.heap.size w w') : Rg w' A n c rs := by
  obtain ⟨h1, h2, h3, h4 | ⟨q, off, rfl, hq, h5⟩⟩ := h
  · exact ⟨h1, h2, h3, .inl h4⟩
  · exact ⟨h1, h2, h3, .inr ⟨q, off, rfl, Nat.lt_of_lt_of_le hq hb.size, fun k hk => ⟨(hb.cell (p := ⟨q, _, none⟩) hq).trans (h5 k hk).1, (hb.cell (p := ⟨q, _, none⟩) hq).trans (h5 k hk).2⟩⟩⟩
theorem Rg.at {w : World} {A : Option Addr} {n c : Nat} {rs : List (Int × Int)} (h : Rg w A n c rs) (h0 : 0 < n) : ∃ q off, A = some ⟨q, off, none⟩ ∧ q < w.heap.size ∧ ∀ k x, rs[k]? = some x → w.cell? ⟨q, off + k * 2, none⟩ = some (.int .i64 x.1) ∧ w.cell? ⟨q, off + k * 2 + 1, none⟩ = some (.int .i64 x.2) := by
  obtain ⟨h1, h2, h3, ⟨_, h4, _⟩ | ⟨q, off, rfl, hq, h5⟩⟩ := h
  · omega
  · refine ⟨q, off, rfl, hq, fun k x hx => ?_⟩
    obtain ⟨hk, e⟩ := List.getElem?_eq_some_iff.1 hx
    rw [← e]
    exact h5 k hk

theorem eq_rng (x0 x1 y0 y1 : Int) (d : Nat) (w : World) : (Op.equalIn (d + 2) 36 (.agg #[.int .i64 x0, .int .i64 x1]) (.agg #[.int .i64 y0, .int .i64 y1])).run Tryd.prog w = .ok (x0 == y0 && x1 == y1) w := by
  have e3 : ∀ (a b : Int) (w : World), (Op.equalIn (d + 1) 3 (.int .i64 a) (.int .i64 b)).run Tryd.prog w = .ok (a == b) w := fun a b w => run_equalIn_int w d 3 .i64 .i64 a b Tryd.underlying3
  have hs : ∀ w, (sizeOf 3).run Tryd.prog w = .ok 1 w := Tryd.sizeOf3
  have ha : ∀ w, (isAgg 3).run Tryd.prog w = .ok false w := Tryd.isAgg3
  rw [Op.equalIn]
  simp only [Sem.run_bind, run_underlying Tryd.underlying36, Result.andThen_ok]
  simp [go_sem, hs, e3, ha]
  cases h0 : (x0 == y0) <;> cases h1 : (x1 == y1) <;> simp_all

set_option maxHeartbeats 2000000 in
theorem requal_any (A : Option Addr) (n c : Nat) (rs : List (Int × Int)) (A' : Option Addr) (n' c' : Nat) (rs' : List (Int × Int)) (w : World) (h : Rg w A n c rs) (h' : Rg w A' n' c' rs') (hs : n ≤ 1000) :
    Calls Tryd.prog 41 #[.slice A n c, .slice A' n' c'] w fun e w' => e = .returned (.bool (decide (rs = rs'))) ∧ Below w.heap.size w w' := by
  have hn := h.1
  have hn' := h'.1
  by_cases e : n = n'
  · subst e
    have ei : ((n : Int) != (n : Int)) = false := by simp
    replace h := Lib.hid h
    replace h' := Lib.hid h'
    go_enter Tryd.func41, Tryd.ntmps41
    go_wp2_with fail
    go_loopw [13] (fun i wr => ∃ k q : Nat, i = .int .i64 (k : Int) ∧ k ≤ n ∧ rs.take k = rs'.take k ∧ wr = w.drewN q) (fun i _ => n - (intOf i).toNat)
    case atStart => exact ⟨0, 0, rfl, by omega, by simp, rfl⟩
    case round =>
      obtain ⟨k, q, rfl, hk, htk, rfl⟩ := hrel
      by_cases hlt : k < n
      · have hlt' : (k : Int) < (n : Int) := by omega
        have hwi : IntKind.i64.wrap ((k : Int) + 1) = (k : Int) + 1 := IntWalk.i64_in _ (by omega)
        obtain ⟨b1, o1, rfl, _, hc1⟩ := h.out.at (by omega)
        obtain ⟨b2, o2, rfl, _, hc2⟩ := h'.out.at (by omega)
        obtain ⟨x, hx⟩ : ∃ x, rs[k]? = some x := ⟨_, List.getElem?_eq_getElem (by omega)⟩
        obtain ⟨y, hy⟩ : ∃ y, rs'[k]? = some y := ⟨_, List.getElem?_eq_getElem (by omega)⟩
        obtain ⟨y0, y1⟩ := hc1 k x hx
        obtain ⟨z0, z1⟩ := hc2 k y hy
        clear hc1 hc2
        obtain ⟨x1, x2⟩ := x
        obtain ⟨u1, u2⟩ := y
        simp only at y0 y1 z0 z1
        have q2 := eq_rng x1 x2 u1 u2
        by_cases he : x1 = u1 ∧ x2 = u2
        · obtain ⟨rfl, rfl⟩ := he
          have htk2 : rs.take (k + 1) = rs'.take (k + 1) := by rw [List.take_add_one, List.take_add_one, hx, hy, htk]
          replace htk := Lib.hid htk
          replace hx := Lib.hid hx
          replace hy := Lib.hid hy
          replace htk2 := Lib.hid htk2
          go_wp2_with fail
          go_quiet (fail)
          go_wp2_with fail
          refine ⟨⟨k + 1, q + nq, by simp, by omega, htk2.out, rfl⟩, ?_⟩
          simp only [intOf]
          omega
        · have hne : (x1 == u1 && x2 == u2) = false := by
            cases hh : (x1 == u1 && x2 == u2) with
            | false => rfl
            | true =>
              simp only [Bool.and_eq_true, beq_iff_eq] at hh
              exact absurd hh he
          have hrs : ¬ rs = rs' := fun hh => by
            subst hh
            rw [hx] at hy
            injection hy with e1
            injection e1 with e1 e2
            exact he ⟨e1, e2⟩
          rw [hne] at q2
          clear he hne
          replace htk := Lib.hid htk
          replace hx := Lib.hid hx
          replace hy := Lib.hid hy
          replace hrs := Lib.hid hrs
          go_wp2_with fail
          go_quiet (fail)
          go_wp2
          go_ret
          exact ⟨by rw [decide_eq_false hrs.out]; rfl, laterDN (laterDN (Below.refl _ _) _) _⟩
      · have hlt' : ¬ (k : Int) < (n : Int) := by omega
        have hrs : rs = rs' := by
          have h1 := htk
          rwa [List.take_of_length_le (by omega), List.take_of_length_le (by omega)] at h1
        replace htk := Lib.hid htk
        replace hrs := Lib.hid hrs
        go_wp2
        go_ret
        exact ⟨by rw [decide_eq_true hrs.out]; rfl, laterDN (Below.refl _ _) _⟩
  · have ei : ((n : Int) != (n' : Int)) = true := by simpa using fun hh => e (by omega)
    have hrs : ¬ rs = rs' := fun hh => by
      rw [hh, hn'] at hn
      exact e hn.symm
    replace hrs := Lib.hid hrs
    clear hn hn' h h' e
    go_enter Tryd.func41, Tryd.ntmps41
    go_wp2
    go_ret
    exact ⟨by rw [decide_eq_false hrs.out]; rfl, Below.refl _ _⟩

/-- An ACK as a value, its ranges at A. -/
def av (a : Frm.Ak) (A : Option Addr) (n c : Nat) : Value := .agg #[.int .i64 a.d, .slice A n c, .bool a.mkd, .int .i64 a.e0, .int .i64 a.e1, .int .i64 a.e2]
namespace Frm
def sm (a b : Ak) : Bool := decide (a.d = b.d) && decide (a.mkd = b.mkd) && (decide (a.e0 = b.e0) && decide (a.e1 = b.e1) && decide (a.e2 = b.e2)) && decide (a.rs = b.rs)
theorem sm_iff (a b : Ak) : sm a b = true ↔ a = b := by
  obtain ⟨d, rs, mkd, e0, e1, e2⟩ := a
  obtain ⟨d', rs', mkd', e0', e1', e2'⟩ := b
  unfold sm
  simp only [Bool.and_eq_true, decide_eq_true_eq, Ak.mk.injEq]
  constructor
  · rintro ⟨⟨⟨h1, h2⟩, ⟨h3, h4⟩, h5⟩, h6⟩
    exact ⟨h1, h6, h2, h3, h4, h5⟩
  · rintro ⟨h1, h6, h2, h3, h4, h5⟩
    exact ⟨⟨⟨h1, h2⟩, ⟨h3, h4⟩, h5⟩, h6⟩
end Frm
theorem eq_arr3 (x0 x1 x2 y0 y1 y2 : Int) (d : Nat) (w : World) : (Op.equalIn (d + 2) 23 (.agg #[.int .i64 x0, .int .i64 x1, .int .i64 x2]) (.agg #[.int .i64 y0, .int .i64 y1, .int .i64 y2])).run Tryd.prog w = .ok (x0 == y0 && (x1 == y1 && x2 == y2)) w := by
  have e3 : ∀ (a b : Int) (w : World), (Op.equalIn (d + 1) 3 (.int .i64 a) (.int .i64 b)).run Tryd.prog w = .ok (a == b) w := fun a b w => run_equalIn_int w d 3 .i64 .i64 a b Tryd.underlying3
  have hs : ∀ w, (sizeOf 3).run Tryd.prog w = .ok 1 w := Tryd.sizeOf3
  have ha : ∀ w, (isAgg 3).run Tryd.prog w = .ok false w := Tryd.isAgg3
  rw [Op.equalIn]
  simp only [Sem.run_bind, run_underlying Tryd.underlying23, Result.andThen_ok]
  simp [go_sem, hs, show List.range' 0 3 = [0, 1, 2] from rfl]
  by_cases h0 : x0 = y0 <;> by_cases h1 : x1 = y1 <;> by_cases h2 : x2 = y2 <;> simp [h0, h1, h2]

set_option maxHeartbeats 2000000 in
theorem fsame_any (a b : Frm.Ak) (A A' : Option Addr) (n c n' c' : Nat) (w : World) (h : Rg w A n c a.rs) (h' : Rg w A' n' c' b.rs) (hs : n ≤ 1000) :
    Calls Tryd.prog 18 #[av a A n c, av b A' n' c'] w fun e w' => e = .returned (.bool (Frm.sm a b)) ∧ Below w.heap.size w w' := by
  have hx := Blk.new w 25 #[.int .i64 a.d, .slice A n c, .bool a.mkd, .int .i64 a.e0, .int .i64 a.e1, .int .i64 a.e2]
  have hb := laterA (laterA (Below.refl w.heap.size w) (.cells #[.int .i64 a.d, .slice A n c, .bool a.mkd, .int .i64 a.e0, .int .i64 a.e1, .int .i64 a.e2] 25)) (.cells #[.int .i64 b.d, .slice A' n' c', .bool b.mkd, .int .i64 b.e0, .int .i64 b.e1, .int .i64 b.e2] 25)
  have hE := requal_any A n c a.rs A' n' c' b.rs _ (h.later hb) (h'.later hb) hs
  obtain ⟨d, rs, mkd, e0, e1, e2⟩ := a
  obtain ⟨d', rs', mkd', e0', e1', e2'⟩ := b
  unfold Frm.sm av
  simp only at hE hb hx ⊢
  clear h h' hx
  have q3 := eq_arr3 e0 e1 e2 e0' e1' e2'
  generalize decide (rs = rs') = R at *
  replace hE := Lib.hid hE
  replace hb := Lib.hid hb
  by_cases c0 : d = d'
  · subst c0
    have f0 : (d == d) = true := by simp
    rw [decide_eq_true (show d = d from rfl)]
    by_cases c1 : mkd = mkd'
    · subst c1
      rw [decide_eq_true (show mkd = mkd from rfl)]
      by_cases c2 : e0 = e0' ∧ e1 = e1' ∧ e2 = e2'
      · obtain ⟨rfl, rfl, rfl⟩ := c2
        have f2 : (e0 == e0 && (e1 == e1 && e2 == e2)) = true := by simp
        simp only [decide_true, Bool.true_and]
        rw [f2] at q3
        go_enter Tryd.func18, Tryd.ntmps18
        go_wp2_with fail
        with_reducible refine hE.out.mono ?_
        rintro e w1 ⟨rfl, hb1⟩
        go_wp2
        go_ret
        exact ⟨rfl, old_later2 hb.out hb1 hb.out.size⟩
      · have f2 : (e0 == e0' && (e1 == e1' && e2 == e2')) = false := by
          cases hh : (e0 == e0' && (e1 == e1' && e2 == e2')) with
          | false => rfl
          | true =>
            simp only [Bool.and_eq_true, beq_iff_eq] at hh
            exact absurd ⟨hh.1, hh.2.1, hh.2.2⟩ c2
        have f3 : (decide (e0 = e0') && decide (e1 = e1') && decide (e2 = e2')) = false := by
          cases hh : (decide (e0 = e0') && decide (e1 = e1') && decide (e2 = e2')) with
          | false => rfl
          | true =>
            simp only [Bool.and_eq_true, decide_eq_true_eq] at hh
            exact absurd ⟨hh.1.1, hh.1.2, hh.2⟩ c2
        rw [f2] at q3
        rw [f3]
        simp only [Bool.and_false, Bool.false_and]
        clear c2 f2 f3 hE
        go_enter Tryd.func18, Tryd.ntmps18
        go_wp2
        go_ret
        exact ⟨rfl, hb.out⟩
    · have f1 : (mkd == mkd') = false := by simpa using c1
      rw [decide_eq_false c1]
      simp only [Bool.and_false, Bool.false_and]
      clear hE q3
      go_enter Tryd.func18, Tryd.ntmps18
      go_wp2
      go_ret
      exact ⟨rfl, hb.out⟩
  · have f0 : (d == d') = false := by simpa using c0
    rw [decide_eq_false c0]
    simp only [Bool.false_and]
    clear hE q3
    go_enter Tryd.func18, Tryd.ntmps18
    go_wp2
    go_ret
    exact ⟨rfl, hb.out⟩
end Go.Proofs.YtpagdcobhbkabaaDoor
