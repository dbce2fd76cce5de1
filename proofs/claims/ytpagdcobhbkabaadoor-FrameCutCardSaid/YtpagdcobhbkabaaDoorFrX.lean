/-
  Layer 5: FrameCut.
-/
import Derived.Test.YtpagdcobhbkabaaDoorFrS
import Derived.Test.YtpagdcobhbkabaaDoorFrW
import Derived.Test.YtpagdcobhbkabaaDoorRead
import Derived.Test.YtpagdcobhbkabaaDoorPostC
import Derived.Lib.SmallJoins
namespace Go.Proofs.YtpagdcobhbkabaaDoor
open Go.RowKit Go.Sort Go.Shelf Go.Deep Go.WideShapes Go.ChangeShapes Go.ChangeAt

theorem encL_bys2 : ∀ (ns : List Int), (∀ n ∈ ns, Frm.isN n = true) → Oct.Bys (Frm.encL ns)
  | [], _ => fun x hx => by simp [Frm.encL] at hx
  | n :: t, h => fun x hx => by
    obtain ⟨h0, h1⟩ := (Frm.isN_iff n).1 (h n (by simp))
    simp only [Frm.encL, List.mem_append] at hx
    rcases hx with hx | hx
    · exact Oct.enc_bys (Oct.fits_size h0 h1).1 x hx
    · exact encL_bys2 t (fun y hy => h y (by simp [hy])) x hx
theorem bytes_bys2 {a : Frm.Ak} (h : Frm.chk a = true) : Oct.Bys (Frm.bytes a).1 := by
  unfold Frm.bytes
  rw [if_pos h]
  intro x hx
  simp only [List.mem_cons] at hx
  rcases hx with rfl | hx
  · split <;> omega
  · exact encL_bys2 _ (nums_isN h) x hx
theorem bytes_len {a : Frm.Ak} (h : Frm.chk a = true) : 0 < (Frm.bytes a).1.length ∧ (Frm.bytes a).1.length ≤ 5000 := by
  constructor
  · unfold Frm.bytes
    rw [if_pos h]
    simp
  · obtain ⟨⟨p, t, hp, ht⟩, _⟩ := Frm.chk_parts h
    rw [← bytes_putL h a.rs.length rfl]
    have h1 := putL_len (if a.mkd then [a.e0, a.e1, a.e2] else []) (putL (putL [if a.mkd then 3 else 2] [(a.rs.headD (0, 0)).2, a.d, (a.rs.length : Int) - 1]) (seqW true (gpn a.rs a.rs.length)))
    have h2 := putL_len (seqW true (gpn a.rs a.rs.length)) (putL [if a.mkd then 3 else 2] [(a.rs.headD (0, 0)).2, a.d, (a.rs.length : Int) - 1])
    have h3 := putL_len [(a.rs.headD (0, 0)).2, a.d, (a.rs.length : Int) - 1] [if a.mkd then 3 else 2]
    have h4 := seqW_len true (gpn a.rs a.rs.length)
    rw [gpn_length] at h4
    have h5 : (if a.mkd then [a.e0, a.e1, a.e2] else []).length ≤ 3 := by split <;> simp
    have h6 : a.rs.length ≤ 256 := by rw [hp]; simp; omega
    simp only [List.length_cons, List.length_nil] at h3
    omega
theorem ak_len {a : Frm.Ak} (h : Frm.chk a = true) {w : World} {A : Option Addr} {n c : Nat} (hr : Rg w A n c a.rs) : n ≤ 256 ∧ 0 < n := by
  have := hr.1
  obtain ⟨⟨p, t, hp, ht⟩, _⟩ := Frm.chk_parts h
  rw [hp] at this
  simp at this
  omega
set_option maxHeartbeats 2000000 in
set_option maxRecDepth 100000 in
theorem fcut_any (hi dl : Int) (A : Option Addr) (n c : Nat) (f : Nat → Nat → Int) (A' : Option Addr) (m c' : Nat) (g : Nat → Nat → Int) (at0 : Int) (w : World) (hL : Lim w) (hn : n ≤ 9223372036854775807) (hf : Rd w A 2 n f) (hm : m ≤ 9223372036854775807) (hg : Rd w A' 1 m g) :
    Calls Tryd.prog 9 #[.agg #[.int .i64 hi, .int .i64 dl, .slice A n c, .slice A' m c'], .int .i64 at0] w fun e w' => e = .returned (.bool true) ∧ Below w.heap.size w w' := by
  have hS := laterA (Below.refl w.heap.size w) (.cells #[.int .i64 hi, .int .i64 dl, .slice A n c, .slice A' m c'] 52)
  have hbS := Blk.new w 52 #[.int .i64 hi, .int .i64 dl, .slice A n c, .slice A' m c']
  have hM := made_any5 hi dl A n c f A' m c' g _ hn (hf.later hS) hm (hg.later hS)
  have hok := Frm.mk_ok hi dl f n g m
  generalize Frm.mk hi dl f n g m = a at *
  obtain ⟨hl0, hl1⟩ := bytes_len hok
  have hbys := bytes_bys2 hok
  have hcut := fun k => Frm.parse_cut hok (k := k)
  have hB2 : (Frm.bytes a).2 = 0 := by unfold Frm.bytes; rw [if_pos hok]
  obtain ⟨L, e0, hY⟩ : ∃ L e, Frm.bytes a = (L, e) := ⟨_, _, rfl⟩
  rw [hY] at hl0 hl1 hbys hcut hB2
  have he0 : e0 = 0 := hB2
  subst he0
  clear hB2 hn hm hf hg
  simp only at hl0 hl1 hcut
  have hBr := fun w => bring_same at0 (L.length : Int) (by omega) (by omega) w
  have k1 := Int.emod_nonneg at0 (show (L.length : Int) ≠ 0 by omega)
  have k2 := Int.emod_lt_of_pos at0 (show (0 : Int) < (L.length : Int) by omega)
  obtain ⟨K, hK⟩ : ∃ K : Nat, at0 % (L.length : Int) = K := ⟨(at0 % (L.length : Int)).toNat, by omega⟩
  simp only [hK] at hBr
  rw [hK] at k1 k2
  have hpc := hcut K (by omega)
  clear hcut hK
  replace hL := Lib.hid hL
  replace hS := Lib.hid hS
  replace hbS := Lib.hid hbS
  replace hok := Lib.hid hok
  replace hbys := Lib.hid hbys
  replace hpc := Lib.hid hpc
  replace hY := Lib.hid hY
  go_enter Tryd.func9, Tryd.ntmps9
  go_wp2_with fail
  with_reducible refine hM.mono ?_
  clear hM
  rintro e w1 ⟨A1, n1, c1, rfl, hrg, hb1⟩
  have hlow := Lib.hid (old_later2 hS.out hb1 hS.out.size)
  have hB := bytes_any a A1 n1 c1 w1 (hL.out.later hlow.out) hrg (by have := ak_len hok.out hrg; omega)
  rw [hY.out] at hB
  clear hb1 hrg hbS hS
  go_wp2_with fail
  with_reducible refine hB.mono ?_
  clear hB
  rintro e w2 ⟨q, A2, c2, rfl, hsl, hb⟩
  simp only at hsl
  replace hlow := Lib.hid (old_later2 hlow.out hb hlow.out.size)
  clear hb
  obtain ⟨A3, hs3, hsl3⟩ := slice_to hsl (K := K) (by omega)
  have hP := parse_any A3 K c2 q (L.take K) w2 hsl3 (by omega) (hbys.out.take K)
  rw [hpc.out] at hP
  have hne : ¬ ((L.length : Int) = 0) := by omega
  clear hsl hsl3
  go_wp2_with fail
  with_reducible refine (hBr _).mono ?_
  rintro e w3 ⟨rfl, rfl⟩
  clear hBr
  go_wp2_with fail
  with_reducible refine hP.mono ?_
  clear hP
  rintro e w3 ⟨A4, n4, c4, rfl, hrg, _, hb⟩
  simp only [av, Frm.zero]
  have hb2 := laterA (Below.refl w3.heap.size w3) (.cells #[.int .i64 0, .slice A4 n4 c4, .bool false, .int .i64 0, .int .i64 0, .int .i64 0] 25)
  have hS := fsame_any Frm.zero Frm.zero A4 none n4 c4 0 0 _ (hrg.later hb2) Rg.zero (by have := hrg.1; simp [Frm.zero] at this; omega)
  rw [show Frm.sm Frm.zero Frm.zero = true from by kernel_rfl] at hS
  simp only [av, Frm.zero] at hS
  have hlow2 := old_later2 hlow.out hb hlow.out.size
  have hlow3 := Lib.hid (old_later2 hlow2 hb2 hlow2.size)
  replace hb2 := Lib.hid hb2
  replace hlow2 := Lib.hid hlow2
  clear hb hrg
  go_wp2_with fail
  with_reducible refine hS.mono ?_
  rintro e2 w4 ⟨rfl, hb3⟩
  replace hlow3 := Lib.hid (old_later2 hlow3.out hb3 hlow3.out.size)
  clear hb3 hS
  have hW := fworks_any w4 (hL.out.later hlow3.out)
  go_wp2_with fail
  with_reducible refine hW.mono ?_
  rintro e2 w5 ⟨rfl, hb3⟩
  go_wp2
  go_ret
  exact ⟨rfl, old_later2 hlow3.out hb3 hlow3.out.size⟩
theorem rd_ints2 {H : Type} {enc : TypeId × Value → H} {P : Program} {w : World} {t e : TypeId} {v : Value} {fuel : Nat} {x : DataW H × List MemPlace} (ht : P.underlying t = some (.slice e)) (he : P.underlying e = some (.int .i64)) (hc : P.cellsOf e = 1)
    (hf : DataW.trod enc P w 0 (fun _ => true) true fuel t [v] = some x) :
    ∃ (A : Option Addr) (n c : Nat) (f : Nat → Nat → Int), v = .slice A n c ∧ n ≤ 9223372036854775807 ∧ Rd w A 1 n f := by
  rcases open_ints ht he hc hf with ⟨hcs, hx⟩ | ⟨a, len, cap, zs, hcs, _, hl, hm, hz, hx, hcell, hwz⟩
  · simp at hcs
    subst hcs
    exact ⟨none, 0, 0, fun _ _ => 0, rfl, by omega, fun h => absurd h (by omega)⟩
  · simp at hcs
    subst hcs
    simp at hz
    refine ⟨some a, len, cap, fun k _ => zs.getD k 0, rfl, by unfold maxLen at hm; omega, fun hn => ?_⟩
    obtain ⟨b, off, rfl, hj⟩ := ints_at hcell (by omega)
    refine ⟨b, off, rfl, block_lt_of_cell (hj 0 (by omega)), fun k hk j hj' => ?_⟩
    have hj0 : j = 0 := by omega
    subst hj0
    have := hj k (by omega)
    rw [show off + (k * 1 + 0) = off + k by omega]
    exact this
theorem rd_pairs2 {H : Type} {enc : TypeId × Value → H} {P : Program} {w : World} {t e i : TypeId} {v : Value} {fuel : Nat} {x : DataW H × List MemPlace} (ht : P.underlying t = some (.slice e)) (he : P.underlying e = some (.array 2 i)) (hi : P.underlying i = some (.int .i64)) (hc : P.cellsOf e = 2) (hci : P.cellsOf i = 1)
    (hf : DataW.trod enc P w 0 (fun _ => true) true fuel t [v] = some x) :
    ∃ (A : Option Addr) (n c : Nat) (f : Nat → Nat → Int), v = .slice A n c ∧ n ≤ 9223372036854775807 ∧ Rd w A 2 n f := by
  rcases Go.Deep.open_slice ht hf with ⟨hcs, hx⟩ | ⟨a, len, cap, m, n', D, Pl, hcs, hb, hl, hm, hmm, hx, hat0⟩
  · simp at hcs
    subst hcs
    exact ⟨none, 0, 0, fun _ _ => 0, rfl, by omega, fun h => absurd h (by omega)⟩
  · simp at hcs
    subst hcs
    simp at hmm
    have hat : ∀ k, k < len → ∀ j, j < 2 → ∃ x : Int, w.cell? (a.add (k * 2 + j)) = some (.int .i64 x) := by
      intro k hk j hj
      obtain ⟨cs', hcc, ht'⟩ := hat0 k (by omega)
      rw [hc] at hcc
      obtain ⟨xs, m', _, _, hcl, hxl, hg⟩ := DataW.trod_array he ht'
      rw [hc] at hcl
      obtain ⟨_, _, hcat⟩ := World.cells?_some hcc
      have h1 := hg j hj
      rw [hci, Nat.mul_one] at h1
      have hone' : (cs'.drop j).take 1 = [cs'[j]'(by omega)] := by
        rw [List.drop_eq_getElem_cons (by omega)]
        rfl
      rw [hone', List.getElem?_eq_getElem (by omega)] at h1
      obtain ⟨x, e0, _, _⟩ := DataW.trod_int hi h1
      simp at e0
      refine ⟨x, ?_⟩
      rw [← Go.Deep.add_add, hcat j hj, List.getElem?_eq_getElem (by omega), e0]
    by_cases hn : 0 < len
    · obtain ⟨x0, hc0⟩ := hat 0 hn 0 (by omega)
      obtain ⟨b, off, spot⟩ := a
      have hspot : spot = none := by
        have := World.cell?_spot hc0
        simpa [Addr.add] using this
      subst hspot
      refine ⟨_, len, cap, fun k j => if k < len ∧ j < 2 then numAt w b (off + (k * 2 + j)) else 0, rfl, by unfold maxLen at hm; omega, fun _ => ⟨b, off, rfl, ?_, fun k hk j hj => ?_⟩⟩
      · rw [Go.WideShapes.add_plain] at hc0
        exact block_lt_of_cell hc0
      · obtain ⟨x, hx⟩ := hat k hk j hj
        rw [Go.WideShapes.add_plain] at hx
        show w.cell? ⟨b, off + (k * 2 + j), none⟩ = some (.int .i64 (if k < len ∧ j < 2 then numAt w b (off + (k * 2 + j)) else 0))
        rw [if_pos ⟨hk, hj⟩, numAt_of hx]
        exact hx
    · exact ⟨_, len, cap, fun _ _ => 0, rfl, by unfold maxLen at hm; omega, fun h => absurd h hn⟩
set_option maxRecDepth 100000 in
theorem open_seed {H : Type} {enc : TypeId × Value → H} {w : World} {r : Reach} {b0 : Nat} {v : Value} {d : DataW H} {p : List MemPlace}
    (hv : Value.okWide Tryd.prog w r b0 52 v) (h : DataW.Trod enc Tryd.prog w 0 (fun _ => true) true 52 v d p) :
    ∃ (hi dl : Int) (A : Option Addr) (n c : Nat) (f : Nat → Nat → Int) (A' : Option Addr) (m c' : Nat) (g : Nat → Nat → Int), v = .agg #[.int .i64 hi, .int .i64 dl, .slice A n c, .slice A' m c'] ∧ n ≤ 9223372036854775807 ∧ Rd w A 2 n f ∧ m ≤ 9223372036854775807 ∧ Rd w A' 1 m g := by
  obtain ⟨v0, v1, v2, v3, y0, y1, y2, y3, n, rfl, _, _, g0, g1, g2, g3⟩ := Go.Joins.open_agg4 Tryd.underlying52 (by kernel_rfl) (by kernel_rfl) hv h
  obtain ⟨a, e0, _, _⟩ := DataW.trod_int Tryd.underlying3 g0
  obtain ⟨b, e1, _, _⟩ := DataW.trod_int Tryd.underlying3 g1
  simp at e0 e1
  subst e0 e1
  obtain ⟨A, k, c, f, rfl, hn, hf⟩ := rd_pairs2 Tryd.underlying50 Tryd.underlying78 Tryd.underlying3 (by kernel_rfl) (by kernel_rfl) g2
  obtain ⟨A', m, c', g, rfl, hm, hg⟩ := rd_ints2 Tryd.underlying40 Tryd.underlying3 (by kernel_rfl) g3
  exact ⟨a, b, A, k, c, f, A', m, c', g, rfl, hn, hf, hm, hg⟩
end Go.Proofs.YtpagdcobhbkabaaDoor
