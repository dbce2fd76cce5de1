/-
  Layer 5: FrameTells.
-/
import Derived.Test.YtpagdcobhbkabaaDoorFrT1
import Derived.Deep.SlicePairs
import Derived.SizedLaws
import Derived.OpenShut
import Derived.Lib.SmallJoins
import Derived.Test.YtpagdcobhbkabaaDoorPostC
namespace Go.Proofs.YtpagdcobhbkabaaDoor
open Go.RowKit Go.Sort Go.Shelf Go.Deep Go.WideShapes Go.ChangeShapes

def inR (n : Int) (p : Int × Int) : Bool := decide (p.1 ≤ n) && decide (n ≤ p.2)
theorem has1_any (lo hi n : Int) (B : Nat) (t : TypeId) (w : World) (hx : Blk w B t #[.int .i64 n]) :
    Calls Tryd.prog 43 #[.agg #[.int .i64 lo, .int .i64 hi], .pointer (some ⟨B, 0, none⟩)] w fun e w' => e = .returned (.bool (inR n (lo, hi))) ∧ Below w.heap.size w w' := by
  have c0 := hx.cell 0
  simp at c0
  have hlt := hx.lt
  have hb := laterA (Below.refl w.heap.size w) (.cells #[.int .i64 lo, .int .i64 hi] 36)
  clear hx
  by_cases h1 : n ≥ lo
  · by_cases h2 : n ≤ hi
    · have hv : inR n (lo, hi) = true := by unfold inR; rw [decide_eq_true (show lo ≤ n from h1), decide_eq_true h2]; rfl
      rw [hv]
      replace hb := Lib.hid hb
      go_enter Tryd.func43, Tryd.ntmps43
      go_wp2
      go_ret
      exact ⟨rfl, hb.out⟩
    · have hv : inR n (lo, hi) = false := by unfold inR; rw [decide_eq_false h2, Bool.and_false]
      rw [hv]
      replace hb := Lib.hid hb
      go_enter Tryd.func43, Tryd.ntmps43
      go_wp2
      go_ret
      exact ⟨rfl, hb.out⟩
  · have hv : inR n (lo, hi) = false := by unfold inR; rw [decide_eq_false (show ¬ lo ≤ n from h1)]; rfl
    rw [hv]
    replace hb := Lib.hid hb
    go_enter Tryd.func43, Tryd.ntmps43
    go_wp2
    go_ret
    exact ⟨rfl, hb.out⟩
set_option maxHeartbeats 1000000 in
theorem indexf_any (A : Option Addr) (m c : Nat) (rs : List (Int × Int)) (n : Int) (B : Nat) (t : TypeId) (w : World) (hx : Blk w B t #[.int .i64 n]) (hr : Rg w A m c rs) (hm : m ≤ 1000) :
    Calls Tryd.prog 60 #[.slice A m c, .func (.func 43) #[] #[.pointer (some ⟨B, 0, none⟩)]] w fun e w' => ∃ r : Int, e = .returned (.int .i64 r) ∧ decide (r ≥ 0) = rs.any (inR n) ∧ Below w.heap.size w w' := by
  have hlen := hr.1
  replace hx := Lib.hid hx
  replace hr := Lib.hid hr
  go_enter Tryd.func60, Tryd.ntmps60
  go_wp2
  go_loopw [8] (fun i wr => ∃ k : Nat, i = .int .i64 k ∧ k ≤ m ∧ (rs.take k).any (inR n) = false ∧ Below w.heap.size w wr) (fun i _ => m - (intOf i).toNat)
  case atStart => exact ⟨0, rfl, Nat.zero_le _, by simp, Below.refl _ _⟩
  case round =>
    obtain ⟨k, rfl, hk, hany, hb⟩ := hrel
    by_cases hkm : k < m
    · have hki : (k : Int) < (m : Int) := by omega
      have hwk : IntKind.i64.wrap ((k : Int) + 1) = (k : Int) + 1 := IntWalk.i64_in _ (by omega)
      obtain ⟨q, off, rfl, hq, hcs⟩ := (hr.out.later hb).at (by omega)
      obtain ⟨lo, hi, he⟩ : ∃ lo hi, rs[k]'(by omega) = (lo, hi) := ⟨_, _, rfl⟩
      have he? : rs[k]? = some (lo, hi) := by rw [List.getElem?_eq_getElem (by omega), he]
      obtain ⟨g0, g1⟩ := hcs k (lo, hi) he?
      simp only at g0 g1
      have hH := has1_any lo hi n B t wr (hx.out.later hb)
      have htk : (rs.take (k + 1)).any (inR n) = inR n (lo, hi) := by
        rw [List.take_add_one, he?, List.any_append, hany]
        simp
      have hall : inR n (lo, hi) = true → rs.any (inR n) = true := fun h => List.any_eq_true.2 ⟨(lo, hi), List.mem_of_getElem? he?, h⟩
      clear hcs he he? hany
      cases hv : inR n (lo, hi) with
      | true =>
        rw [hv] at hH
        have hall' := hall hv
        replace hb := Lib.hid hb
        replace htk := Lib.hid htk
        replace hall' := Lib.hid hall'
        clear hall
        go_wp2_with fail
        with_reducible refine hH.mono ?_
        rintro e w2 ⟨rfl, hb2⟩
        go_wp2
        go_ret
        exact ⟨k, rfl, by rw [hall'.out, decide_eq_true (by omega)], old_later2 hb.out hb2 hb.out.size⟩
      | false =>
        rw [hv] at hH htk
        replace hb := Lib.hid hb
        replace htk := Lib.hid htk
        clear hall
        go_wp2_with fail
        with_reducible refine hH.mono ?_
        rintro e w2 ⟨rfl, hb2⟩
        go_wp2
        go_roundw
        case rel => exact ⟨k + 1, by simp, by omega, htk.out, old_later2 hb.out hb2 hb.out.size⟩
        case measure => simp [intOf]; omega
    · obtain rfl : k = m := by omega
      rw [List.take_of_length_le (by omega)] at hany
      replace hany := Lib.hid hany
      replace hb := Lib.hid hb
      go_wp2
      go_ret
      exact ⟨-1, rfl, by rw [hany.out]; rfl, hb.out⟩
theorem contains_any (A : Option Addr) (m c : Nat) (rs : List (Int × Int)) (n : Int) (B : Nat) (t : TypeId) (w : World) (hx : Blk w B t #[.int .i64 n]) (hr : Rg w A m c rs) (hm : m ≤ 1000) :
    Calls Tryd.prog 42 #[.slice A m c, .func (.func 43) #[] #[.pointer (some ⟨B, 0, none⟩)]] w fun e w' => e = .returned (.bool (rs.any (inR n))) ∧ Below w.heap.size w w' := by
  have hI := indexf_any A m c rs n B t w hx hr hm
  clear hx hr
  generalize rs.any (inR n) = V at *
  go_enter Tryd.func42, Tryd.ntmps42
  go_wp2_with fail
  with_reducible refine hI.mono ?_
  rintro e w1 ⟨r, rfl, hd, hb⟩
  by_cases hr : r ≥ 0
  · rw [decide_eq_true hr] at hd
    subst hd
    go_wp2
    go_ret
    exact ⟨rfl, hb⟩
  · rw [decide_eq_false hr] at hd
    subst hd
    have hr' : decide (0 ≤ r) = false := decide_eq_false (by omega)
    replace hr := Lib.hid hr
    go_wp2
    go_ret
    exact ⟨rfl, hb⟩
set_option maxHeartbeats 1000000 in
theorem fhas1_any (a : Frm.Ak) (A : Option Addr) (m c : Nat) (n : Int) (w : World) (hr : Rg w A m c a.rs) (hm : m ≤ 1000) :
    Calls Tryd.prog 20 #[av a A m c, .int .i64 n] w fun e w' => e = .returned (.bool (Frm.has a n)) ∧ Below w.heap.size w w' := by
  have hbA := (Blk.new w 25 #[.int .i64 a.d, .slice A m c, .bool a.mkd, .int .i64 a.e0, .int .i64 a.e1, .int .i64 a.e2]).alloc (.cells #[.int .i64 n] 3)
  have hbN := Blk.new (w.alloc (.cells #[.int .i64 a.d, .slice A m c, .bool a.mkd, .int .i64 a.e0, .int .i64 a.e1, .int .i64 a.e2] 25)) 3 #[.int .i64 n]
  rw [World.size_alloc] at hbN
  have hlow := laterA (laterA (Below.refl w.heap.size w) (.cells #[.int .i64 a.d, .slice A m c, .bool a.mkd, .int .i64 a.e0, .int .i64 a.e1, .int .i64 a.e2] 25)) (.cells #[.int .i64 n] 3)
  have hC := check_any a A m c _ (hr.later hlow) hm
  have hr2 := hr.later hlow
  unfold av at hC ⊢
  have hh : Frm.has a n = (Frm.chk a && a.rs.any (inR n)) := rfl
  rw [hh]
  replace hbA := Lib.hid hbA
  replace hbN := Lib.hid hbN
  replace hlow := Lib.hid hlow
  replace hr := Lib.hid hr
  replace hr2 := Lib.hid hr2
  clear hh
  go_enter Tryd.func20, Tryd.ntmps20
  go_wp2_with fail
  with_reducible refine hC.mono ?_
  clear hC
  rintro e w1 ⟨rfl, hb⟩
  cases hk : Frm.chk a with
  | false =>
    have hlow2 := old_later2 hlow.out hb hlow.out.size
    replace hlow2 := Lib.hid hlow2
    replace hb := Lib.hid hb
    go_wp2_with fail
    go_ret
    exact ⟨by rw [hk]; rfl, hlow2.out⟩
  | true =>
    have hlow2 := old_later2 hlow.out hb hlow.out.size
    have hI := contains_any A m c a.rs n _ _ w1 (hbN.out.later hb) (hr2.out.later hb) hm
    have c1 := (hbA.out.later hb).cell 1
    simp at c1
    replace hlow2 := Lib.hid hlow2
    replace hb := Lib.hid hb
    go_wp2_with fail
    with_reducible refine hI.mono ?_
    rintro e w2 ⟨rfl, hb2⟩
    go_wp2
    go_ret
    exact ⟨by rw [hk]; rfl, old_later2 hlow2.out hb2 hlow2.out.size⟩
set_option maxHeartbeats 2000000 in
theorem tsame_any (a b : Frm.Ak) (A A' : Option Addr) (n c n' c' : Nat) (w : World) (h : Rg w A n c a.rs) (h' : Rg w A' n' c' b.rs) (hs : n ≤ 1000) :
    Calls Tryd.prog 19 #[av a A n c, av b A' n' c'] w fun e w' => e = .returned (.bool (Frm.sm a b)) ∧ Below w.heap.size w w' := by
  have hb := laterA (laterA (Below.refl w.heap.size w) (.cells #[.int .i64 a.d, .slice A n c, .bool a.mkd, .int .i64 a.e0, .int .i64 a.e1, .int .i64 a.e2] 25)) (.cells #[.int .i64 b.d, .slice A' n' c', .bool b.mkd, .int .i64 b.e0, .int .i64 b.e1, .int .i64 b.e2] 25)
  have hn := h.1
  have hn' := h'.1
  obtain ⟨d, rs, mkd, e0, e1, e2⟩ := a
  obtain ⟨d', rs', mkd', e0', e1', e2'⟩ := b
  unfold Frm.sm av
  simp only at hb hn hn' h h' ⊢
  have q3 := eq_arr3 e0 e1 e2 e0' e1' e2'
  replace hb := Lib.hid hb
  by_cases c0 : d = d'
  · subst c0
    have f0 : (d != d) = false := by simp
    rw [decide_eq_true (show d = d from rfl)]
    by_cases c1 : mkd = mkd'
    · subst c1
      have f1 : (mkd != mkd) = false := by simp
      rw [decide_eq_true (show mkd = mkd from rfl)]
      by_cases c2 : e0 = e0' ∧ e1 = e1' ∧ e2 = e2'
      · obtain ⟨rfl, rfl, rfl⟩ := c2
        have f2 : (e0 == e0 && (e1 == e1 && e2 == e2)) = true := by simp
        simp only [decide_true, Bool.true_and]
        rw [f2] at q3
        by_cases e : n = n'
        · subst e
          have ei : ((n : Int) != (n : Int)) = false := by simp
          have hx := (Blk.new w 25 #[.int .i64 d, .slice A n c, .bool mkd, .int .i64 e0, .int .i64 e1, .int .i64 e2]).alloc (.cells #[.int .i64 d, .slice A' n c', .bool mkd, .int .i64 e0, .int .i64 e1, .int .i64 e2] 25)
          have hy := Blk.new2 w (.cells #[.int .i64 d, .slice A n c, .bool mkd, .int .i64 e0, .int .i64 e1, .int .i64 e2] 25) 25 #[.int .i64 d, .slice A' n c', .bool mkd, .int .i64 e0, .int .i64 e1, .int .i64 e2]
          replace h := h.later hb.out
          replace h' := h'.later hb.out
          replace h := Lib.hid h
          replace h' := Lib.hid h'
          replace hx := Lib.hid hx
          replace hy := Lib.hid hy
          go_enter Tryd.func19, Tryd.ntmps19
          go_wp2_with fail
          obtain ⟨W, hW⟩ : ∃ W, (w.alloc (.cells #[.int .i64 d, .slice A n c, .bool mkd, .int .i64 e0, .int .i64 e1, .int .i64 e2] 25)).alloc (.cells #[.int .i64 d, .slice A' n c', .bool mkd, .int .i64 e0, .int .i64 e1, .int .i64 e2] 25) = W := ⟨_, rfl⟩
          rw [hW] at hb h h' hx hy ⊢
          clear hW
          have x1 := hx.out.cell 1
          have y1 := hy.out.cell 1
          simp at x1 y1
          clear hx hy
          go_loopw [5] (fun i wr => ∃ k q : Nat, i = .int .i64 (k : Int) ∧ k ≤ n ∧ rs.take k = rs'.take k ∧ wr = W.drewN q) (fun i _ => n - (intOf i).toNat)
          case atStart => exact ⟨0, 0, rfl, by omega, by simp, rfl⟩
          case round =>
            obtain ⟨k, q, rfl, hk, htk, rfl⟩ := hrel
            by_cases hlt : k < n
            · have hlt' : (k : Int) < (n : Int) := by omega
              have hwi : IntKind.i64.wrap ((k : Int) + 1) = (k : Int) + 1 := IntWalk.i64_in _ (by omega)
              obtain ⟨b1, o1, rfl, _, hc1⟩ := h.out.at (by omega)
              obtain ⟨b2, o2, rfl, _, hc2⟩ := h'.out.at (by omega)
              obtain ⟨x, hx⟩ : ∃ x, rs[k]? = some x := ⟨_, List.getElem?_eq_getElem (by omega)⟩
              obtain ⟨y, hy⟩ : ∃ y, rs'[k]? = some y := ⟨_, List.getElem?_eq_getElem (by omega)⟩
              obtain ⟨g0, g1⟩ := hc1 k x hx
              obtain ⟨z0, z1⟩ := hc2 k y hy
              clear hc1 hc2
              obtain ⟨p1, p2⟩ := x
              obtain ⟨u1, u2⟩ := y
              simp only at g0 g1 z0 z1
              have q2 := eq_rng p1 p2 u1 u2
              by_cases he : p1 = u1 ∧ p2 = u2
              · obtain ⟨rfl, rfl⟩ := he
                have htk2 : rs.take (k + 1) = rs'.take (k + 1) := by rw [List.take_add_one, List.take_add_one, hx, hy, htk]
                replace htk := Lib.hid htk
                replace hx := Lib.hid hx
                replace hy := Lib.hid hy
                replace htk2 := Lib.hid htk2
                go_wp2_with fail
                go_quiet (fail)
                go_wp2_with fail
                refine ⟨⟨k + 1, q + nq, by simp, by omega, htk2.out, rfl⟩, ?_⟩
                simp only [intOf]
                omega
              · have hne : (p1 == u1 && p2 == u2) = false := by
                  cases hh : (p1 == u1 && p2 == u2) with
                  | false => rfl
                  | true =>
                    simp only [Bool.and_eq_true, beq_iff_eq] at hh
                    exact absurd hh he
                have hrs : ¬ rs = rs' := fun hh => by
                  subst hh
                  rw [hx] at hy
                  injection hy with e1
                  injection e1 with e1 e2
                  exact he ⟨e1, e2⟩
                rw [hne] at q2
                clear he hne
                replace htk := Lib.hid htk
                replace hx := Lib.hid hx
                replace hy := Lib.hid hy
                replace hrs := Lib.hid hrs
                go_wp2_with fail
                go_quiet (fail)
                go_wp2
                go_ret
                exact ⟨by rw [decide_eq_false hrs.out]; rfl, laterNq (laterNq hb.out _) _⟩
            · have hlt' : ¬ (k : Int) < (n : Int) := by omega
              have hrs : rs = rs' := by
                have h1 := htk
                rwa [List.take_of_length_le (by omega), List.take_of_length_le (by omega)] at h1
              replace htk := Lib.hid htk
              replace hrs := Lib.hid hrs
              go_wp2
              go_ret
              exact ⟨by rw [decide_eq_true hrs.out]; rfl, laterNq hb.out _⟩
        · have ei : ((n : Int) != (n' : Int)) = true := by simpa using fun hh => e (by omega)
          have hrs : ¬ rs = rs' := fun hh => by
            rw [hh, hn'] at hn
            exact e hn.symm
          replace hrs := Lib.hid hrs
          clear hn hn' h h' e
          go_enter Tryd.func19, Tryd.ntmps19
          go_wp2
          go_ret
          exact ⟨by rw [decide_eq_false hrs.out]; rfl, hb.out⟩
      · have f2 : (e0 == e0' && (e1 == e1' && e2 == e2')) = false := by
          cases hh : (e0 == e0' && (e1 == e1' && e2 == e2')) with
          | false => rfl
          | true =>
            simp only [Bool.and_eq_true, beq_iff_eq] at hh
            exact absurd ⟨hh.1, hh.2.1, hh.2.2⟩ c2
        have f3 : (decide (e0 = e0') && decide (e1 = e1') && decide (e2 = e2')) = false := by
          cases hh : (decide (e0 = e0') && decide (e1 = e1') && decide (e2 = e2')) with
          | false => rfl
          | true =>
            simp only [Bool.and_eq_true, decide_eq_true_eq] at hh
            exact absurd ⟨hh.1.1, hh.1.2, hh.2⟩ c2
        rw [f2] at q3
        rw [f3]
        simp only [Bool.and_false, Bool.false_and]
        clear c2 f2 f3 h h'
        go_enter Tryd.func19, Tryd.ntmps19
        go_wp2
        go_ret
        exact ⟨rfl, hb.out⟩
    · have f1 : (mkd != mkd') = true := by simpa using c1
      rw [decide_eq_false c1]
      simp only [Bool.and_false, Bool.false_and]
      clear q3 h h'
      go_enter Tryd.func19, Tryd.ntmps19
      go_wp2
      go_ret
      exact ⟨rfl, hb.out⟩
  · have f0 : (d != d') = true := by simpa using c0
    rw [decide_eq_false c0]
    simp only [Bool.false_and]
    clear q3 h h'
    go_enter Tryd.func19, Tryd.ntmps19
    go_wp2
    go_ret
    exact ⟨rfl, hb.out⟩

/-- An ACK, cut. -/
def cutA (a : Frm.Ak) (m : Nat) : Frm.Ak := ⟨a.d, a.rs.take m, a.mkd, a.e0, a.e1, a.e2⟩
theorem cutA_idem (a : Frm.Ak) (m : Nat) : cutA (cutA a m) m = cutA a m := by simp [cutA, List.take_take]
def CutP (w0 : World) (a : Frm.Ak) (m : Nat) (e : Ending) (w' : World) : Prop :=
  ∃ A c, e = .returned (.agg #[.int .i64 a.d, .slice A m c, .bool a.mkd, .int .i64 a.e0, .int .i64 a.e1, .int .i64 a.e2]) ∧ Rg w' A m c a.rs ∧ (∀ x, A = some x → w0.heap.size ≤ x.block) ∧ Below w0.heap.size w0 w'
theorem cut_a (a : Frm.Ak) (A : Option Addr) (n c m : Nat) (w : World) (h : Rs w A n c a.rs) (hm : min n 260 = m) :
    Calls Tryd.prog 12 #[av a A n c] w (CutP w (cutA a m) m) :=
  (cut_any a A n c m w h hm).mono fun _ _ h => h
theorem encL_bys3 : ∀ (ns : List Int), (∀ n ∈ ns, Frm.isN n = true) → Oct.Bys (Frm.encL ns)
  | [], _ => fun x hx => by simp [Frm.encL] at hx
  | n :: t, h => fun x hx => by
    obtain ⟨h0, h1⟩ := (Frm.isN_iff n).1 (h n (by simp))
    simp only [Frm.encL, List.mem_append] at hx
    rcases hx with hx | hx
    · exact Oct.enc_bys (Oct.fits_size h0 h1).1 x hx
    · exact encL_bys3 t (fun y hy => h y (by simp [hy])) x hx
theorem bytes_bys3 (a : Frm.Ak) : Oct.Bys (Frm.bytes a).1 := by
  unfold Frm.bytes
  by_cases h : Frm.chk a = true
  · rw [if_pos h]
    intro x hx
    simp only [List.mem_cons] at hx
    rcases hx with rfl | hx
    · split <;> omega
    · exact encL_bys3 _ (nums_isN h) x hx
  · rw [if_neg h]
    intro x hx
    simp at hx
/-- Behind both cuts. -/
structure TellsAt (w W : World) (a b : Frm.Ak) (A : Option Addr) (m c : Nat) (A' : Option Addr) (m' c' : Nat) : Prop where
  x3 : Blk W w.heap.size 25 #[.int .i64 a.d, .slice A m c, .bool a.mkd, .int .i64 a.e0, .int .i64 a.e1, .int .i64 a.e2]
  x4 : Blk W (w.heap.size + 1) 25 #[.int .i64 b.d, .slice A' m' c', .bool b.mkd, .int .i64 b.e0, .int .i64 b.e1, .int .i64 b.e2]
  r1 : Rg W A m c a.rs
  r2 : Rg W A' m' c' b.rs
  low : Below w.heap.size w W
theorem TellsAt.drew {w W : World} {a b : Frm.Ak} {A : Option Addr} {m c : Nat} {A' : Option Addr} {m' c' : Nat} (h : TellsAt w W a b A m c A' m' c') : TellsAt w W.drew a b A m c A' m' c' :=
  ⟨h.x3.drew, h.x4.drew, h.r1.later (laterD_ (Below.refl _ _)), h.r2.later (laterD_ (Below.refl _ _)), laterD_ h.low⟩
section
variable {w W : World} {a b : Frm.Ak} {A : Option Addr} {m c : Nat} {A' : Option Addr} {m' c' : Nat} {u0 u1 u2 u3 u4 u5 t0 t1 t2 t3 t4 t5 : Value}
theorem tells_mk1 (h3 : Blk W w.heap.size 25 #[u0, u1, u2, u3, u4, u5]) (h4 : Blk W (w.heap.size + 1) 25 #[t0, t1, t2, t3, t4, t5]) (r1 : Rg W A m c a.rs) (r2 : Rg W A' m' c' b.rs) (f1 : ∀ x, A = some x → w.heap.size + 2 ≤ x.block) (f2 : ∀ x, A' = some x → w.heap.size + 2 ≤ x.block) (hl : Below w.heap.size w W) :
    TellsAt w (six (six W w.heap.size (.int .i64 a.d) (.slice A m c) (.bool a.mkd) (.int .i64 a.e0) (.int .i64 a.e1) (.int .i64 a.e2)) (w.heap.size + 1) (.int .i64 b.d) (.slice A' m' c') (.bool b.mkd) (.int .i64 b.e0) (.int .i64 b.e1) (.int .i64 b.e2)) a b A m c A' m' c' :=
  ⟨(six_blk h3).only six_only (by simp), six_blk (h4.only six_only (by simp)),
   (r1.only six_only (fun x hx => by have := f1 x hx; omega)).only six_only (fun x hx => by have := f1 x hx; omega),
   (r2.only six_only (fun x hx => by have := f2 x hx; omega)).only six_only (fun x hx => by have := f2 x hx; omega),
   only_old (only_old hl six_only (by rintro i rfl; exact Nat.le_refl _) hl.size) six_only (by rintro i rfl; exact Nat.le_succ _) (Nat.le_trans hl.size (six_only (w := W)).size)⟩
theorem tells_mk2 (h3 : Blk W w.heap.size 25 #[u0, u1, u2, u3, u4, u5]) (h4 : Blk W (w.heap.size + 1) 25 #[t0, t1, t2, t3, t4, t5]) (r1 : Rg W A m c a.rs) (r2 : Rg W A' m' c' b.rs) (f1 : ∀ x, A = some x → w.heap.size + 2 ≤ x.block) (f2 : ∀ x, A' = some x → w.heap.size + 2 ≤ x.block) (hl : Below w.heap.size w W) :
    TellsAt w (six (six W (w.heap.size + 1) (.int .i64 b.d) (.slice A' m' c') (.bool b.mkd) (.int .i64 b.e0) (.int .i64 b.e1) (.int .i64 b.e2)) w.heap.size (.int .i64 a.d) (.slice A m c) (.bool a.mkd) (.int .i64 a.e0) (.int .i64 a.e1) (.int .i64 a.e2)) a b A m c A' m' c' :=
  ⟨six_blk (h3.only six_only (by simp)), (six_blk h4).only six_only (by simp),
   (r1.only six_only (fun x hx => by have := f1 x hx; omega)).only six_only (fun x hx => by have := f1 x hx; omega),
   (r2.only six_only (fun x hx => by have := f2 x hx; omega)).only six_only (fun x hx => by have := f2 x hx; omega),
   only_old (only_old hl six_only (by rintro i rfl; exact Nat.le_succ _) hl.size) six_only (by rintro i rfl; exact Nat.le_refl _) (Nat.le_trans hl.size (six_only (w := W)).size)⟩
end

set_option maxHeartbeats 8000000 in
set_option maxRecDepth 100000 in
theorem ftells_any (a b : Frm.Ak) (A : Option Addr) (n c : Nat) (A' : Option Addr) (n' c' : Nat) (x : Int) (w : World) (hL : Lim w) (ha : Rs w A n c a.rs) (hb : Rs w A' n' c' b.rs) :
    Calls Tryd.prog 3 #[av a A n c, av b A' n' c', .int .i64 x] w fun e w' => e = .returned (.bool true) ∧ Below w.heap.size w w' := by
  obtain ⟨m, hm⟩ : ∃ m, min n 260 = m := ⟨_, rfl⟩
  obtain ⟨m', hm'⟩ : ∃ m, min n' 260 = m := ⟨_, rfl⟩
  have hm2 : m ≤ 260 := by omega
  have hm2' : m' ≤ 260 := by omega
  have hCa := fun W (h : Below w.heap.size w W) => cut_a a A n c m W (ha.later h) hm
  have hCb := fun W (h : Below w.heap.size w W) => cut_a b A' n' c' m' W (hb.later h) hm'
  have hid := cutA_idem a m
  obtain ⟨a1, ha1⟩ : ∃ a1, cutA a m = a1 := ⟨_, rfl⟩
  obtain ⟨b1, hb1⟩ : ∃ b1, cutA b m' = b1 := ⟨_, rfl⟩
  rw [ha1] at hCa hid
  rw [hb1] at hCb
  clear ha1 hb1 ha hb hm hm'
  unfold av at hCa hCb ⊢
  have hlow := laterA (laterA (Below.refl w.heap.size w) (.cells #[.int .i64 a.d, .slice A n c, .bool a.mkd, .int .i64 a.e0, .int .i64 a.e1, .int .i64 a.e2] 25)) (.cells #[.int .i64 b.d, .slice A' n' c', .bool b.mkd, .int .i64 b.e0, .int .i64 b.e1, .int .i64 b.e2] 25)
  have hx3 := (Blk.new w 25 #[.int .i64 a.d, .slice A n c, .bool a.mkd, .int .i64 a.e0, .int .i64 a.e1, .int .i64 a.e2]).alloc (.cells #[.int .i64 b.d, .slice A' n' c', .bool b.mkd, .int .i64 b.e0, .int .i64 b.e1, .int .i64 b.e2] 25)
  have hx4 := Blk.new2 w (.cells #[.int .i64 a.d, .slice A n c, .bool a.mkd, .int .i64 a.e0, .int .i64 a.e1, .int .i64 a.e2] 25) 25 #[.int .i64 b.d, .slice A' n' c', .bool b.mkd, .int .i64 b.e0, .int .i64 b.e1, .int .i64 b.e2]
  replace hL := Lib.hid hL
  replace hCa := Lib.hid hCa
  replace hCb := Lib.hid hCb
  replace hid := Lib.hid hid
  go_enter Tryd.func3, Tryd.ntmps3
  go_wp2_with fail
  have hsz : ((w.alloc (.cells #[.int .i64 a.d, .slice A n c, .bool a.mkd, .int .i64 a.e0, .int .i64 a.e1, .int .i64 a.e2] 25)).alloc (.cells #[.int .i64 b.d, .slice A' n' c', .bool b.mkd, .int .i64 b.e0, .int .i64 b.e1, .int .i64 b.e2] 25)).heap.size = w.heap.size + 2 := by simp
  obtain ⟨W0, hW0⟩ : ∃ W, (w.alloc (.cells #[.int .i64 a.d, .slice A n c, .bool a.mkd, .int .i64 a.e0, .int .i64 a.e1, .int .i64 a.e2] 25)).alloc (.cells #[.int .i64 b.d, .slice A' n' c', .bool b.mkd, .int .i64 b.e0, .int .i64 b.e1, .int .i64 b.e2] 25) = W := ⟨_, rfl⟩
  rw [hW0] at hx3 hx4 hlow hsz ⊢
  clear hW0
  rename_i K hK
  have hlowD := laterD_ hlow
  have hsz0 : w.heap.size + 2 ≤ W0.drew.heap.size := by show w.heap.size + 2 ≤ W0.heap.size; omega
  have p0 := hx3.cell 0
  have p1 := hx3.cell 1
  have p2 := hx3.cell 2
  have p3 := hx3.cell 3
  have p4 := hx3.cell 4
  have p5 := hx3.cell 5
  have o0 := hx4.cell 0
  have o1 := hx4.cell 1
  have o2 := hx4.cell 2
  have o3 := hx4.cell 3
  have o4 := hx4.cell 4
  have o5 := hx4.cell 5
  simp at p0 p1 p2 p3 p4 p5 o0 o1 o2 o3 o4 o5
  replace hsz0 := Lib.hid hsz0
  replace hlow := Lib.hid hlow
  replace hlowD := Lib.hid hlowD
  replace hx3 := Lib.hid hx3
  replace hx4 := Lib.hid hx4
  have rest : ∀ (A1 : Option Addr) (c1 : Nat) (A2 : Option Addr) (c2 : Nat) (W : World), TellsAt w W a1 b1 A1 m c1 A2 m' c2 → K { tmps := #[.agg #[.int .i64 a.d, .slice A n c, .bool a.mkd, .int .i64 a.e0, .int .i64 a.e1, .int .i64 a.e2], .agg #[.int .i64 b.d, .slice A' n' c', .bool b.mkd, .int .i64 b.e0, .int .i64 b.e1, .int .i64 b.e2], .int .i64 x, .pointer (some ⟨w.heap.size, 0, none⟩), .pointer (some ⟨w.heap.size + 1, 0, none⟩), undef, .bool false, undef, undef, undef, undef, undef, undef, undef, .agg #[.int .i64 a.d, .slice A n c, .bool a.mkd, .int .i64 a.e0, .int .i64 a.e1, .int .i64 a.e2], .agg #[.int .i64 a1.d, .slice A1 m c1, .bool a1.mkd, .int .i64 a1.e0, .int .i64 a1.e1, .int .i64 a1.e2], .agg #[.int .i64 b.d, .slice A' n' c', .bool b.mkd, .int .i64 b.e0, .int .i64 b.e1, .int .i64 b.e2], .agg #[.int .i64 b1.d, .slice A2 m' c2, .bool b1.mkd, .int .i64 b1.e0, .int .i64 b1.e1, .int .i64 b1.e2], undef, undef, undef, undef, undef, undef, undef, undef, undef, undef, undef, undef, undef, undef, undef, undef, undef, undef, undef, undef, undef, undef, undef, undef, undef, undef, undef, undef, undef, undef, undef, undef, undef, undef, undef, undef, undef, undef, undef, undef, undef, undef, undef, undef, undef, undef, undef, undef, undef, undef, undef, undef, undef, undef, undef, undef, undef, undef, undef, undef, undef, undef, undef, undef, undef, undef, undef, undef, undef, undef, undef, undef, undef, undef, undef, undef], defers := [] } W := by
    intro A1 c1 A2 c2 W hT
    refine hK _ _ ?_
    obtain ⟨x3, x4, r1, r2, low⟩ := hT
    have hC := cut_a a1 A1 m c1 m W (r1.rs (by omega)) (by omega)
    rw [hid.out] at hC
    unfold av at hC
    replace x3 := Lib.hid x3
    replace x4 := Lib.hid x4
    replace r1 := Lib.hid r1
    replace r2 := Lib.hid r2
    replace low := Lib.hid low
    have p0 := x3.out.cell 0
    have p1 := x3.out.cell 1
    have p2 := x3.out.cell 2
    have p3 := x3.out.cell 3
    have p4 := x3.out.cell 4
    have p5 := x3.out.cell 5
    simp at p0 p1 p2 p3 p4 p5
    go_wp2_with fail
    with_reducible refine hC.mono ?_
    clear hC p0 p1 p2 p3 p4 p5
    (try clear hu)
    rintro e v1 ⟨A3, c3, rfl, r3, _, hb⟩
    replace x3 := Lib.hid (x3.out.later hb)
    replace x4 := Lib.hid (x4.out.later hb)
    replace r1 := Lib.hid (r1.out.later hb)
    replace r2 := Lib.hid (r2.out.later hb)
    replace low := Lib.hid (old_later2 low.out hb low.out.size)
    replace r3 := Lib.hid (r3.later (Below.refl _ _))
    have x7 := Blk.new v1 25 #[.int .i64 a1.d, .slice A3 m c3, .bool a1.mkd, .int .i64 a1.e0, .int .i64 a1.e1, .int .i64 a1.e2]
    clear hb
    have hb := laterA (Below.refl v1.heap.size v1) (.cells #[.int .i64 a1.d, .slice A3 m c3, .bool a1.mkd, .int .i64 a1.e0, .int .i64 a1.e1, .int .i64 a1.e2] 25)
    replace x3 := Lib.hid (x3.out.later hb)
    replace x4 := Lib.hid (x4.out.later hb)
    replace r1 := Lib.hid (r1.out.later hb)
    replace r2 := Lib.hid (r2.out.later hb)
    replace r3 := Lib.hid (r3.out.later hb)
    replace low := Lib.hid (old_later2 low.out hb low.out.size)
    obtain ⟨u1, hu⟩ : ∃ W, v1.alloc (.cells #[.int .i64 a1.d, .slice A3 m c3, .bool a1.mkd, .int .i64 a1.e0, .int .i64 a1.e1, .int .i64 a1.e2] 25) = W := ⟨_, rfl⟩
    replace x7 := Lib.hid x7
    rw [hu] at x3 x4 r1 r2 r3 x7 low
    clear hb
    have hC := bytes_any a1 A1 m c1 u1 (hL.out.later low.out) r1.out (by omega)
    obtain ⟨L, eL, hY⟩ : ∃ L e, Frm.bytes a1 = (L, e) := ⟨_, _, rfl⟩
    rw [hY] at hC
    unfold av at hC
    have p0 := x3.out.cell 0
    have p1 := x3.out.cell 1
    have p2 := x3.out.cell 2
    have p3 := x3.out.cell 3
    have p4 := x3.out.cell 4
    have p5 := x3.out.cell 5
    simp at p0 p1 p2 p3 p4 p5
    go_wp2_with fail
    with_reducible refine hC.mono ?_
    clear hC p0 p1 p2 p3 p4 p5
    (try clear hu)
    rintro e v2 ⟨q1, A4, c4, rfl, s1, hb⟩
    replace x3 := Lib.hid (x3.out.later hb)
    replace x4 := Lib.hid (x4.out.later hb)
    replace r1 := Lib.hid (r1.out.later hb)
    replace r2 := Lib.hid (r2.out.later hb)
    replace r3 := Lib.hid (r3.out.later hb)
    replace x7 := Lib.hid (x7.out.later hb)
    replace low := Lib.hid (old_later2 low.out hb low.out.size)
    simp only at s1 ⊢
    clear hb
    replace s1 := Lib.hid s1
    have hC := rbytes_any a1 A3 m c3 v2 r3.out (by omega)
    rw [hY] at hC
    unfold av at hC
    have p0 := x7.out.cell 0
    have p1 := x7.out.cell 1
    have p2 := x7.out.cell 2
    have p3 := x7.out.cell 3
    have p4 := x7.out.cell 4
    have p5 := x7.out.cell 5
    simp at p0 p1 p2 p3 p4 p5
    go_wp2_with fail
    with_reducible refine hC.mono ?_
    clear hC p0 p1 p2 p3 p4 p5
    (try clear hu)
    rintro e v3 ⟨q2, A5, c5, rfl, s2, hb⟩
    replace x3 := Lib.hid (x3.out.later hb)
    replace x4 := Lib.hid (x4.out.later hb)
    replace r1 := Lib.hid (r1.out.later hb)
    replace r2 := Lib.hid (r2.out.later hb)
    replace r3 := Lib.hid (r3.out.later hb)
    replace x7 := Lib.hid (x7.out.later hb)
    replace s1 := Lib.hid (s1.out.later hb)
    replace low := Lib.hid (old_later2 low.out hb low.out.size)
    simp only at s2 ⊢
    clear hb
    replace s2 := Lib.hid s2
    obtain ⟨RR, hRR⟩ : ∃ R : Int, (if Frm.chk a1 = true then 0 else 2) = R := ⟨_, rfl⟩
    obtain ⟨SM, hSM⟩ : ∃ S, Frm.sm a1 b1 = S := ⟨_, rfl⟩
    obtain ⟨HS, hHS⟩ : ∃ S, Frm.has a1 x = S := ⟨_, rfl⟩
    have k1 := fun d os => check_any a1 A1 m c1 (grow (redrawn v3 d) os) (r1.out.later (below_regrown _ _ _)) (by omega)
    have k2 := fun d os => rcheck_any a1 A3 m c3 (grow (redrawn v3 d) os) (r3.out.later (below_regrown _ _ _)) (by omega)
    have hbys : Oct.Bys L := by
      have h1 : (Frm.bytes a1).1 = L := by rw [hY]
      rw [← h1]
      exact bytes_bys3 a1
    have k3 := fun d os => same_below (eqb_same (w := (grow (redrawn v3 d) os)) (s1.out.later (below_regrown _ _ _)).rb (s2.out.later (below_regrown _ _ _)).rb hbys)
    have k4 := fun d os => fsame_any a1 b1 A1 A2 m c1 m' c2 (grow (redrawn v3 d) os) (r1.out.later (below_regrown _ _ _)) (r2.out.later (below_regrown _ _ _)) (by omega)
    have k5 := fun d os => tsame_any a1 b1 A3 A2 m c3 m' c2 (grow (redrawn v3 d) os) (r3.out.later (below_regrown _ _ _)) (r2.out.later (below_regrown _ _ _)) (by omega)
    have k6 := fun d os => fhas1_any a1 A1 m c1 x (grow (redrawn v3 d) os) (r1.out.later (below_regrown _ _ _)) (by omega)
    have k7 := fun d os => rhas_any a1 A3 m c3 x (grow (redrawn v3 d) os) (r3.out.later (below_regrown _ _ _)) (by omega)
    unfold ChkPost at k1 k2
    unfold av at k1 k2 k4 k5 k6 k7
    simp only [hRR] at k1 k2
    simp only [hSM] at k4 k5
    simp only [hHS] at k6 k7
    have e1 : (RR != RR) = false := by simp
    have e2 : (eL != eL) = false := by simp
    have e3 : (SM != SM) = false := by simp
    have e4 : (HS != HS) = false := by simp
    have p0 := fun d os => (x3.out.grow d os).cell 0
    have p1 := fun d os => (x3.out.grow d os).cell 1
    have p2 := fun d os => (x3.out.grow d os).cell 2
    have p3 := fun d os => (x3.out.grow d os).cell 3
    have p4 := fun d os => (x3.out.grow d os).cell 4
    have p5 := fun d os => (x3.out.grow d os).cell 5
    have o0 := fun d os => (x4.out.grow d os).cell 0
    have o1 := fun d os => (x4.out.grow d os).cell 1
    have o2 := fun d os => (x4.out.grow d os).cell 2
    have o3 := fun d os => (x4.out.grow d os).cell 3
    have o4 := fun d os => (x4.out.grow d os).cell 4
    have o5 := fun d os => (x4.out.grow d os).cell 5
    have y0 := fun d os => (x7.out.grow d os).cell 0
    have y1 := fun d os => (x7.out.grow d os).cell 1
    have y2 := fun d os => (x7.out.grow d os).cell 2
    have y3 := fun d os => (x7.out.grow d os).cell 3
    have y4 := fun d os => (x7.out.grow d os).cell 4
    have y5 := fun d os => (x7.out.grow d os).cell 5
    simp at p0 p1 p2 p3 p4 p5 o0 o1 o2 o3 o4 o5 y0 y1 y2 y3 y4 y5
    replace k1 := Lib.hid k1
    replace k2 := Lib.hid k2
    replace k3 := Lib.hid k3
    replace k4 := Lib.hid k4
    replace k5 := Lib.hid k5
    replace k6 := Lib.hid k6
    replace k7 := Lib.hid k7
    clear hRR hSM hHS hbys
    go_wp2_with fail
    refine wp_region_quiet_below (by kernel_rfl) (by kernel_rfl) ?_
    repeat (go_big_quiet_step ((first | (go_at_call 15; with_reducible exact Calls.regrown_of (k1.out _ _)) | (go_at_call 16; with_reducible exact Calls.regrown_of (k2.out _ _)) | (go_at_call 17; with_reducible exact Calls.regrown_of (k3.out _ _)) | (go_at_call 18; with_reducible exact Calls.regrown_of (k4.out _ _)) | (go_at_call 19; with_reducible exact Calls.regrown_of (k5.out _ _)) | (go_at_call 20; with_reducible exact Calls.regrown_of (k6.out _ _)) | (go_at_call 21; with_reducible exact Calls.regrown_of (k7.out _ _)))))
    refine wpQuiet_nil ?_
    intro wq hw'
    obtain ⟨⟨dq, osq⟩, hw''⟩ := hw'
    have hbq := regrown_below hw''
    clear hw'' dq osq
    clear k1 k2 k3 k4 k5 k6 k7 e1 e2 e3 e4 p0 p1 p2 p3 p4 p5 o0 o1 o2 o3 o4 o5 y0 y1 y2 y3 y4 y5
    have hb := hbq
    clear hbq
    replace x3 := Lib.hid (x3.out.later hb)
    replace x4 := Lib.hid (x4.out.later hb)
    replace r1 := Lib.hid (r1.out.later hb)
    replace r2 := Lib.hid (r2.out.later hb)
    replace r3 := Lib.hid (r3.out.later hb)
    replace x7 := Lib.hid (x7.out.later hb)
    replace s1 := Lib.hid (s1.out.later hb)
    replace s2 := Lib.hid (s2.out.later hb)
    replace low := Lib.hid (old_later2 low.out hb low.out.size)
    clear hb
    have hC := fcopy_any a1 A1 m c1 wq (r1.out.rs (by omega))
    unfold av at hC
    have p0 := x3.out.cell 0
    have p1 := x3.out.cell 1
    have p2 := x3.out.cell 2
    have p3 := x3.out.cell 3
    have p4 := x3.out.cell 4
    have p5 := x3.out.cell 5
    simp at p0 p1 p2 p3 p4 p5
    have hlw := Lib.hid (Below.refl wq.heap.size wq)
    go_wp2_with fail
    with_reducible refine hC.mono ?_
    clear hC p0 p1 p2 p3 p4 p5
    (try clear hu)
    rintro e v4 ⟨A9, c9, rfl, own, hb⟩
    simp only [av]
    replace own := Lib.hid own
    replace hlw := Lib.hid (old_later2 hlw.out hb hlw.out.size)
    have y3 := Lib.hid (x3.out.later hb)
    have y7 := Lib.hid (x7.out.later hb)
    have z1 := Lib.hid (r1.out.later hb)
    have z3 := Lib.hid (r3.out.later hb)
    clear hb
    have x12 := Blk.new v4 25 #[.int .i64 a1.d, .slice A9 m c9, .bool a1.mkd, .int .i64 a1.e0, .int .i64 a1.e1, .int .i64 a1.e2]
    have hb := laterA (Below.refl v4.heap.size v4) (.cells #[.int .i64 a1.d, .slice A9 m c9, .bool a1.mkd, .int .i64 a1.e0, .int .i64 a1.e1, .int .i64 a1.e2] 25)
    replace y3 := Lib.hid (y3.out.later hb)
    replace y7 := Lib.hid (y7.out.later hb)
    replace z1 := Lib.hid (z1.out.later hb)
    replace z3 := Lib.hid (z3.out.later hb)
    replace own := Lib.hid (own.out.later hb)
    replace hlw := Lib.hid (old_later2 hlw.out hb hlw.out.size)
    obtain ⟨u4, hu⟩ : ∃ W, v4.alloc (.cells #[.int .i64 a1.d, .slice A9 m c9, .bool a1.mkd, .int .i64 a1.e0, .int .i64 a1.e1, .int .i64 a1.e2] 25) = W := ⟨_, rfl⟩
    replace x12 := Lib.hid x12
    rw [hu] at y3 y7 z1 z3 own x12 hlw
    clear hb
    obtain ⟨A8, c8, hA8, ro, _⟩ := own.out.rg
    injection hA8 with hA8 hA82 hA83
    subst hA8 hA83
    rw [← hA82] at ro
    clear hA82
    have hC := tsame_any a1 a1 A9 A3 m c9 m c3 u4 ro z3.out (by omega)
    rw [(Frm.sm_iff a1 a1).2 rfl] at hC
    unfold av at hC
    replace ro := Lib.hid ro
    have p0 := x12.out.cell 0
    have p1 := x12.out.cell 1
    have p2 := x12.out.cell 2
    have p3 := x12.out.cell 3
    have p4 := x12.out.cell 4
    have p5 := x12.out.cell 5
    have o0 := y7.out.cell 0
    have o1 := y7.out.cell 1
    have o2 := y7.out.cell 2
    have o3 := y7.out.cell 3
    have o4 := y7.out.cell 4
    have o5 := y7.out.cell 5
    simp at p0 p1 p2 p3 p4 p5 o0 o1 o2 o3 o4 o5
    go_wp2_with fail
    with_reducible refine hC.mono ?_
    clear hC p0 p1 p2 p3 p4 p5 o0 o1 o2 o3 o4 o5 ro
    (try clear hu)
    rintro e v5 ⟨rfl, hb⟩
    replace y3 := Lib.hid (y3.out.later hb)
    replace y7 := Lib.hid (y7.out.later hb)
    replace z1 := Lib.hid (z1.out.later hb)
    replace z3 := Lib.hid (z3.out.later hb)
    replace own := Lib.hid (own.out.later hb)
    replace x12 := Lib.hid (x12.out.later hb)
    replace hlw := Lib.hid (old_later2 hlw.out hb hlw.out.size)
    clear hb
    have hC := fsame_any a1 a1 A1 A3 m c1 m c3 v5 z1.out z3.out (by omega)
    rw [(Frm.sm_iff a1 a1).2 rfl] at hC
    unfold av at hC
    have p0 := y3.out.cell 0
    have p1 := y3.out.cell 1
    have p2 := y3.out.cell 2
    have p3 := y3.out.cell 3
    have p4 := y3.out.cell 4
    have p5 := y3.out.cell 5
    have o0 := y7.out.cell 0
    have o1 := y7.out.cell 1
    have o2 := y7.out.cell 2
    have o3 := y7.out.cell 3
    have o4 := y7.out.cell 4
    have o5 := y7.out.cell 5
    simp at p0 p1 p2 p3 p4 p5 o0 o1 o2 o3 o4 o5
    go_wp2_with fail
    with_reducible refine hC.mono ?_
    clear hC p0 p1 p2 p3 p4 p5 o0 o1 o2 o3 o4 o5
    (try clear hu)
    rintro e v6 ⟨rfl, hb⟩
    replace y3 := Lib.hid (y3.out.later hb)
    replace y7 := Lib.hid (y7.out.later hb)
    replace z1 := Lib.hid (z1.out.later hb)
    replace z3 := Lib.hid (z3.out.later hb)
    replace own := Lib.hid (own.out.later hb)
    replace x12 := Lib.hid (x12.out.later hb)
    replace hlw := Lib.hid (old_later2 hlw.out hb hlw.out.size)
    clear hb
    have hob : m = 0 ∨ ∃ g cs, A9 = some ⟨g, 0, none⟩ ∧ Blk v6 g 36 cs ∧ 2 * m ≤ cs.size ∧ wq.heap.size ≤ g := by
      obtain ⟨h1, ⟨h2, h3⟩ | ⟨g, cap, cur, h2, h3, h4, h5, _, h6, _⟩⟩ := own.out
      · left
        injection h2
      · right
        injection h2 with h2 h7 _
        exact ⟨g, cur, h2, h4, by omega, h3⟩
    replace hob := Lib.hid hob
    clear y3 y7 z1 z3 own
    go_wp2_with fail
    go_loopw [13] (fun iv wr => ∃ k : Nat, iv = .int .i64 (k : Int) ∧ k ≤ m ∧ Below wq.heap.size wq wr ∧ Blk wr v4.heap.size 25 #[.int .i64 a1.d, .slice A9 m c9, .bool a1.mkd, .int .i64 a1.e0, .int .i64 a1.e1, .int .i64 a1.e2] ∧ (m = 0 ∨ ∃ g cs, A9 = some ⟨g, 0, none⟩ ∧ Blk wr g 36 cs ∧ 2 * m ≤ cs.size ∧ wq.heap.size ≤ g)) (fun iv _ => m - (intOf iv).toNat)
    case atStart => exact ⟨0, rfl, Nat.zero_le _, hlw.out, x12.out, hob.out⟩
    case round =>
      obtain ⟨k, rfl, hk, hl9, hx9, ho9⟩ := hrel
      have c1' := hx9.cell 1
      simp at c1'
      by_cases hlt : k < m
      · have hki : (k : Int) < (m : Int) := by omega
        have hwk : IntKind.i64.wrap ((k : Int) + 1) = (k : Int) + 1 := IntWalk.i64_in _ (by omega)
        obtain ⟨g, cs, rfl, hg, hcs, hge⟩ : ∃ g cs, A9 = some ⟨g, 0, none⟩ ∧ Blk wr g 36 cs ∧ 2 * m ≤ cs.size ∧ wq.heap.size ≤ g := by
          rcases ho9 with h | h
          · omega
          · exact h
        obtain ⟨v, hv⟩ : ∃ v, cs[k * 2]? = some v := ⟨_, Array.getElem?_eq_getElem (by omega)⟩
        have y0 := (hg.cell (k * 2)).trans hv
        have f0 := hg.frozen (k * 2)
        have hne : v4.heap.size ≠ g := Blk.ne_ hx9 hg (by decide)
        have hl10 := below_wr hl9 hge (k * 2) (.int .i64 (-9))
        have hx10 := hx9.far (p := ⟨g, k * 2, none⟩) hne (.int .i64 (-9))
        have hg10 := hg.set_ (k * 2) (.int .i64 (-9))
        have hsz10 : 2 * m ≤ (cs.setIfInBounds (k * 2) (.int .i64 (-9))).size := by rw [Array.size_setIfInBounds]; exact hcs
        replace hne := Lib.hid hne
        clear ho9 hv
        replace hl9 := Lib.hid hl9
        replace hx9 := Lib.hid hx9
        replace hg := Lib.hid hg
        replace hl10 := Lib.hid hl10
        replace hx10 := Lib.hid hx10
        replace hg10 := Lib.hid hg10
        replace hcs := Lib.hid hcs
        replace hge := Lib.hid hge
        replace hsz10 := Lib.hid hsz10
        go_wp2_with fail
        refine ⟨⟨k + 1, by simp, by omega, hl10.out, hx10.out, .inr ⟨g, _, rfl, hg10.out, hsz10.out, hge.out⟩⟩, ?_⟩
        simp only [intOf]
        omega
      · obtain rfl : m = k := by omega
        have hki : ¬ (m : Int) < (m : Int) := by omega
        have hb := hl9
        clear hx9 ho9
        replace hl9 := Lib.hid hl9
        replace x3 := Lib.hid (x3.out.later hb)
        replace x7 := Lib.hid (x7.out.later hb)
        replace r1 := Lib.hid (r1.out.later hb)
        replace r3 := Lib.hid (r3.out.later hb)
        replace low := Lib.hid (old_later2 low.out hb low.out.size)
        clear hb
        have hC := tsame_any a1 a1 A1 A3 m c1 m c3 wr r1.out r3.out (by omega)
        rw [(Frm.sm_iff a1 a1).2 rfl] at hC
        unfold av at hC
        have p0 := x3.out.cell 0
        have p1 := x3.out.cell 1
        have p2 := x3.out.cell 2
        have p3 := x3.out.cell 3
        have p4 := x3.out.cell 4
        have p5 := x3.out.cell 5
        have o0 := x7.out.cell 0
        have o1 := x7.out.cell 1
        have o2 := x7.out.cell 2
        have o3 := x7.out.cell 3
        have o4 := x7.out.cell 4
        have o5 := x7.out.cell 5
        simp at p0 p1 p2 p3 p4 p5 o0 o1 o2 o3 o4 o5
        go_wp2_with fail
        with_reducible refine hC.mono ?_
        clear hC p0 p1 p2 p3 p4 p5 o0 o1 o2 o3 o4 o5
        (try clear hu)
        rintro e v7 ⟨rfl, hb⟩
        replace low := Lib.hid (old_later2 low.out hb low.out.size)
        clear hb
        have hC := fworks_any v7 (hL.out.later low.out)
        go_wp2_with fail
        with_reducible refine hC.mono ?_
        clear hC
        rintro e v8 ⟨rfl, hb⟩
        replace low := Lib.hid (old_later2 low.out hb low.out.size)
        clear hb
        go_wp2
        go_ret
        exact ⟨rfl, low.out⟩
  clear hK
  replace rest := Lib.hid rest
  go_region_with (first | (go_at_call 12; (with_reducible refine (hCa.out W0.drew hlowD.out).mono ?_); rintro e w1 ⟨A1, c1, rfl, r1, fr1, hb⟩; have hx31 := hx3.out.drew.later hb; have hx41 := hx4.out.drew.later hb; have hl1 := old_later2 hlowD.out hb (hlowD.out).size; replace fr1 : ∀ x, A1 = some x → w.heap.size + 2 ≤ x.block := fun x hx => Nat.le_trans hsz0.out (fr1 x hx); have hsz1 := Lib.hid (Nat.le_trans hsz0.out hb.size); clear hb; have p0 := hx31.cell 0; have p1 := hx31.cell 1; have p2 := hx31.cell 2; have p3 := hx31.cell 3; have p4 := hx31.cell 4; have p5 := hx31.cell 5; have o0 := hx41.cell 0; have o1 := hx41.cell 1; have o2 := hx41.cell 2; have o3 := hx41.cell 3; have o4 := hx41.cell 4; have o5 := hx41.cell 5; have q0 := hx31.frozen 0; have q1 := hx31.frozen 1; have q2 := hx31.frozen 2; have q3 := hx31.frozen 3; have q4 := hx31.frozen 4; have q5 := hx31.frozen 5; have s0 := hx41.frozen 0; have s1 := hx41.frozen 1; have s2 := hx41.frozen 2; have s3 := hx41.frozen 3; have s4 := hx41.frozen 4; have s5 := hx41.frozen 5; simp at p0 p1 p2 p3 p4 p5 o0 o1 o2 o3 o4 o5; replace r1 := Lib.hid r1; replace fr1 := Lib.hid fr1; replace hx31 := Lib.hid hx31; replace hx41 := Lib.hid hx41; replace hl1 := Lib.hid hl1) | (go_at_call 12; (with_reducible refine (hCb.out w1 hl1.out).mono ?_); rintro e w2 ⟨A2, c2, rfl, r2, fr2, hb⟩; have hx32 := hx31.out.later hb; have hx42 := hx41.out.later hb; have hl2 := old_later2 hl1.out hb (hl1.out).size; replace r1 := Lib.hid (r1.out.later hb); replace fr2 : ∀ x, A2 = some x → w.heap.size + 2 ≤ x.block := fun x hx => Nat.le_trans hsz1.out (fr2 x hx); clear hb; have p0 := hx32.cell 0; have p1 := hx32.cell 1; have p2 := hx32.cell 2; have p3 := hx32.cell 3; have p4 := hx32.cell 4; have p5 := hx32.cell 5; have o0 := hx42.cell 0; have o1 := hx42.cell 1; have o2 := hx42.cell 2; have o3 := hx42.cell 3; have o4 := hx42.cell 4; have o5 := hx42.cell 5; have q0 := hx32.frozen 0; have q1 := hx32.frozen 1; have q2 := hx32.frozen 2; have q3 := hx32.frozen 3; have q4 := hx32.frozen 4; have q5 := hx32.frozen 5; have s0 := hx42.frozen 0; have s1 := hx42.frozen 1; have s2 := hx42.frozen 2; have s3 := hx42.frozen 3; have s4 := hx42.frozen 4; have s5 := hx42.frozen 5; simp at p0 p1 p2 p3 p4 p5 o0 o1 o2 o3 o4 o5; replace r2 := Lib.hid r2; replace fr2 := Lib.hid fr2; replace hx32 := Lib.hid hx32; replace hx42 := Lib.hid hx42; replace hl2 := Lib.hid hl2) | (go_at_call 12; (with_reducible refine (hCb.out W0.drew hlowD.out).mono ?_); rintro e w1 ⟨A2, c2, rfl, r2, fr2, hb⟩; have hx31 := hx3.out.drew.later hb; have hx41 := hx4.out.drew.later hb; have hl1 := old_later2 hlowD.out hb (hlowD.out).size; replace fr2 : ∀ x, A2 = some x → w.heap.size + 2 ≤ x.block := fun x hx => Nat.le_trans hsz0.out (fr2 x hx); have hsz1 := Lib.hid (Nat.le_trans hsz0.out hb.size); clear hb; have p0 := hx31.cell 0; have p1 := hx31.cell 1; have p2 := hx31.cell 2; have p3 := hx31.cell 3; have p4 := hx31.cell 4; have p5 := hx31.cell 5; have o0 := hx41.cell 0; have o1 := hx41.cell 1; have o2 := hx41.cell 2; have o3 := hx41.cell 3; have o4 := hx41.cell 4; have o5 := hx41.cell 5; have q0 := hx31.frozen 0; have q1 := hx31.frozen 1; have q2 := hx31.frozen 2; have q3 := hx31.frozen 3; have q4 := hx31.frozen 4; have q5 := hx31.frozen 5; have s0 := hx41.frozen 0; have s1 := hx41.frozen 1; have s2 := hx41.frozen 2; have s3 := hx41.frozen 3; have s4 := hx41.frozen 4; have s5 := hx41.frozen 5; simp at p0 p1 p2 p3 p4 p5 o0 o1 o2 o3 o4 o5; replace r2 := Lib.hid r2; replace fr2 := Lib.hid fr2; replace hx31 := Lib.hid hx31; replace hx41 := Lib.hid hx41; replace hl1 := Lib.hid hl1) | (go_at_call 12; (with_reducible refine (hCa.out w1 hl1.out).mono ?_); rintro e w2 ⟨A1, c1, rfl, r1, fr1, hb⟩; have hx32 := hx31.out.later hb; have hx42 := hx41.out.later hb; have hl2 := old_later2 hl1.out hb (hl1.out).size; replace r2 := Lib.hid (r2.out.later hb); replace fr1 : ∀ x, A1 = some x → w.heap.size + 2 ≤ x.block := fun x hx => Nat.le_trans hsz1.out (fr1 x hx); clear hb; have p0 := hx32.cell 0; have p1 := hx32.cell 1; have p2 := hx32.cell 2; have p3 := hx32.cell 3; have p4 := hx32.cell 4; have p5 := hx32.cell 5; have o0 := hx42.cell 0; have o1 := hx42.cell 1; have o2 := hx42.cell 2; have o3 := hx42.cell 3; have o4 := hx42.cell 4; have o5 := hx42.cell 5; have q0 := hx32.frozen 0; have q1 := hx32.frozen 1; have q2 := hx32.frozen 2; have q3 := hx32.frozen 3; have q4 := hx32.frozen 4; have q5 := hx32.frozen 5; have s0 := hx42.frozen 0; have s1 := hx42.frozen 1; have s2 := hx42.frozen 2; have s3 := hx42.frozen 3; have s4 := hx42.frozen 4; have s5 := hx42.frozen 5; simp at p0 p1 p2 p3 p4 p5 o0 o1 o2 o3 o4 o5; replace r1 := Lib.hid r1; replace fr1 := Lib.hid fr1; replace hx32 := Lib.hid hx32; replace hx42 := Lib.hid hx42; replace hl2 := Lib.hid hl2))
  all_goals (refine rest.out A1 c1 A2 c2 _ ?_; exact tells_mk1 hx32.out hx42.out r1.out r2.out fr1.out fr2.out hl2.out)
/-! ### An ACK that came in -/
theorem int_of {v : Value} {x : Int} (h : v = .int .i64 x) : v = .int .i64 (intOf v) := by subst h; rfl
set_option maxRecDepth 100000 in
theorem open_ack {H : Type} {enc : TypeId × Value → H} {w : World} {r : Reach} {b0 : Nat} {v : Value} {d : DataW H} {p : List MemPlace}
    (hv : Value.okWide Tryd.prog w r b0 25 v) (h : DataW.Trod enc Tryd.prog w 0 (fun _ => true) true 25 v d p) :
    ∃ (a : Frm.Ak) (A : Option Addr) (n c : Nat), v = av a A n c ∧ ((∀ k ∈ d.weights Tryd.prog 25, k ≤ reachBytes) → Rs w A n c a.rs) := by
  obtain ⟨cs, rfl, hsz⟩ := okWide_struct Tryd.underlying25 hv
  have hC : Tryd.prog.cellsOf 25 = 6 := by kernel_rfl
  have hI : Tryd.prog.cellsOf 3 = 1 := by kernel_rfl
  have hS : Tryd.prog.cellsOf 22 = 1 := by kernel_rfl
  have hB : Tryd.prog.cellsOf 4 = 1 := by kernel_rfl
  have hA : Tryd.prog.cellsOf 23 = 3 := by kernel_rfl
  rw [hC] at hsz
  obtain ⟨c0, c1, c2, c3, c4, c5, rfl⟩ : ∃ c0 c1 c2 c3 c4 c5, cs = #[c0, c1, c2, c3, c4, c5] := by
    obtain ⟨l⟩ := cs
    simp at hsz
    match l, hsz with
    | [a, b, c, d, e, f], _ => exact ⟨a, b, c, d, e, f, rfl⟩
  obtain ⟨fuel, hf⟩ := h
  obtain ⟨xs, n, _, hx, _, hxl, hg⟩ := DataW.trod_struct Tryd.underlying25 hf
  have g0 := hg 0 _ rfl
  have g1 := hg 1 _ rfl
  have g2 := hg 2 _ rfl
  have g3 := hg 3 _ rfl
  match xs, hxl with
  | [y0, y1, y2, y3], _ =>
    simp [Value.cells, hI, hS, hB, hA] at g0 g1 g2 g3
    obtain ⟨a, e0, _, _⟩ := DataW.trod_int Tryd.underlying3 g0
    obtain ⟨b, e2, _⟩ := DataW.trod_bool Tryd.underlying4 g2
    obtain ⟨zs, m', _, _, _, hzl, hz⟩ := DataW.trod_array Tryd.underlying23 g3
    have z0 := hz 0 (by omega)
    have z1 := hz 1 (by omega)
    have z2 := hz 2 (by omega)
    match zs, hzl with
    | [q0, q1, q2], _ =>
      simp [hI] at z0 z1 z2 e0 e2
      obtain ⟨x0, f0, _, _⟩ := DataW.trod_int Tryd.underlying3 z0
      obtain ⟨x1, f1, _, _⟩ := DataW.trod_int Tryd.underlying3 z1
      obtain ⟨x2, f2, _, _⟩ := DataW.trod_int Tryd.underlying3 z2
      simp at f0 f1 f2
      subst e0 e2 f0 f1 f2
      rcases open_slice_pairs Tryd.underlying22 Tryd.underlying36 (by kernel_rfl) rfl rfl (by kernel_rfl) (by kernel_rfl) g1 with ⟨hc, _⟩ | ⟨ad, len, cap, m, n', V0, V1, D0, D1, P0, P1, hc, _, hl, hm, hmm, hxx, hat⟩
      · simp at hc
        subst hc
        exact ⟨⟨a, [], b, x0, x1, x2⟩, none, 0, 0, rfl, fun _ => ⟨rfl, Nat.le_refl _, by simp [maxLen], by simp, .inl ⟨rfl, rfl, rfl⟩⟩⟩
      · simp at hc
        subst hc
        refine ⟨⟨a, (List.range len).map fun i => (intOf (V0 i), intOf (V1 i)), b, x0, x1, x2⟩, some ad, len, cap, rfl, fun hw => ⟨by simp, hl, hm, ?_, .inr ⟨ad, rfl, fun k hk => ?_⟩⟩⟩
        · have hbs : Tryd.prog.bytesOf 36 = 16 := by kernel_rfl
          have h1 := congrArg Prod.fst hxx
          have h2 := congrArg Prod.fst hx
          simp only at h1 h2
          have h3 := hw ((len + (m - len)) * 16) (by
            rw [h2]
            simp [DataW.weights, DataW.weightsEach, Tryd.underlying25, Tryd.underlying22, h1, hbs])
          unfold reachBytes at h3
          omega
        · have hkl : k < len := by simpa using hk
          have hkm : k < m := by rw [hmm]; simp; omega
          obtain ⟨h1, h2, t1, t2⟩ := hat k hkm
          obtain ⟨u1, s1, _, _⟩ := DataW.trod_int Tryd.underlying3 t1
          obtain ⟨u2, s2, _, _⟩ := DataW.trod_int Tryd.underlying3 t2
          simp at s1 s2
          simp only [List.getElem_map, List.getElem_range]
          rw [h1, h2, ← int_of s1, ← int_of s2]
          exact ⟨rfl, rfl⟩
theorem ftells_any2 (a : Frm.Ak) (A : Option Addr) (n c : Nat) (b : Frm.Ak) (A' : Option Addr) (n' c' : Nat) (x : Int) (w : World) (hL : Lim w) (ha : Rs w A n c a.rs) (hb : Rs w A' n' c' b.rs) :
    Calls Tryd.prog 3 #[av a A n c, av b A' n' c', .int .i64 x] w fun e w' => e = .returned (.bool true) ∧ Below w.heap.size w w' := ftells_any a b A n c A' n' c' x w hL ha hb
end Go.Proofs.YtpagdcobhbkabaaDoor
