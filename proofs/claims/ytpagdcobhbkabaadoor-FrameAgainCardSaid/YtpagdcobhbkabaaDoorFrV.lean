/-
  Layer 5: FrameAgain.
-/
import Derived.Test.YtpagdcobhbkabaaDoorFrS
import Derived.Test.YtpagdcobhbkabaaDoorOctN
namespace Go.Proofs.YtpagdcobhbkabaaDoor
open Go.RowKit Go.Sort Go.Shelf Go.Deep Go.WideShapes

theorem rb_sl {w : World} {A : Option Addr} {n c : Nat} {l : List Int} (h : Rb w A n c l) (h0 : 0 < n) : ∃ q, Sl w q A n c l := by
  obtain ⟨h1, h2, h3, ⟨_, h4, _⟩ | ⟨⟨q, off, sp⟩, rfl, h5⟩⟩ := h
  · omega
  · have hc := h5 0 (by omega)
    cases sp with
    | none =>
      refine ⟨q, h1, h2, h3, .inr ⟨off, rfl, ?_, fun k hk => ?_⟩⟩
      · have := block_lt_of_cell hc
        simpa [Addr.add] using this
      · have := h5 k hk
        rw [add_lit0] at this
        exact this
    | some s =>
      exfalso
      simp [Addr.add, World.cell?] at hc
      split at hc <;> simp at hc
set_option maxHeartbeats 2000000 in
set_option maxRecDepth 100000 in
theorem next_nil (A : Option Addr) (c : Nat) (w : World) : Calls Tryd.prog 24 #[.slice A 0 c] w (AckN w (Frm.nxt [])) := by
  have hbx := Blk.new w 25 #[.int .i64 0, .slice none 0 0, .bool false, .int .i64 0, .int .i64 0, .int .i64 0]
  go_enter Tryd.func24, Tryd.ntmps24
  go_wp2
  refine scope_three (fun _ _ => False) (fun _ _ => False) (fun _ _ => False) (fun _ _ _ => 0) rfl rfl rfl ?_ (fun _ _ h => h.elim) (fun _ _ h => h.elim) (fun _ _ h => h.elim)
  go_wp2_with fail
  have hlo := laterA (Below.refl w.heap.size w) (.cells #[.int .i64 0, .slice none 0 0, .bool false, .int .i64 0, .int .i64 0, .int .i64 0] 25)
  generalize w.alloc (.cells #[.int .i64 0, .slice none 0 0, .bool false, .int .i64 0, .int .i64 0, .int .i64 0] 25) = W at hbx hlo ⊢
  rw [jumpN_ret]
  refine bodyPost_ret (results_c3 rfl _ _ rfl hbx rfl) rfl ?_
  exact ⟨none, 0, 0, rfl, Rg.zero, no_addr, hlo⟩
theorem next_rb (A : Option Addr) (n c : Nat) (l : List Int) (w : World) (h0 : 0 < w.heap.size) (h : Rb w A n c l) (hs : n ≤ 10000) (hb : Oct.Bys l) :
    Calls Tryd.prog 24 #[.slice A n c] w (AckN w (Frm.nxt l)) := by
  by_cases hn : 0 < n
  · obtain ⟨q, hq⟩ := rb_sl h hn
    exact next_any A n c q l w h0 hq hs hb
  · obtain rfl : n = 0 := by omega
    have hl : l = [] := List.eq_nil_of_length_eq_zero h.1
    subst hl
    exact next_nil A c w
theorem nxt_bad (b : List Int) (h : (Frm.nxt b).2.2 ≠ 0) : (Frm.nxt b).1 = Frm.zero ∧ (Frm.nxt b).2.1 = 0 := by
  cases b with
  | nil => exact ⟨rfl, rfl⟩
  | cons t l =>
    rw [nxt_cons] at h ⊢
    split
    · rename_i ht
      rw [if_pos ht] at h
      cases hx : Frm.body (decide (t = 3)) l with
      | error e => exact ⟨rfl, rfl⟩
      | ok x =>
        obtain ⟨a, r⟩ := x
        rw [hx] at h
        exact absurd rfl h
    · exact ⟨rfl, rfl⟩
theorem encL_bys : ∀ (ns : List Int), (∀ n ∈ ns, Frm.isN n = true) → Oct.Bys (Frm.encL ns)
  | [], _ => fun x hx => by simp [Frm.encL] at hx
  | n :: t, h => fun x hx => by
    obtain ⟨h0, h1⟩ := (Frm.isN_iff n).1 (h n (by simp))
    simp only [Frm.encL, List.mem_append] at hx
    rcases hx with hx | hx
    · exact Oct.enc_bys (Oct.fits_size h0 h1).1 x hx
    · exact encL_bys t (fun y hy => h y (by simp [hy])) x hx
theorem bytes_bys {a : Frm.Ak} (h : Frm.chk a = true) : Oct.Bys (Frm.bytes a).1 := by
  unfold Frm.bytes
  rw [if_pos h]
  intro x hx
  simp only [List.mem_cons] at hx
  rcases hx with rfl | hx
  · split <;> omega
  · exact encL_bys _ (nums_isN h) x hx
set_option maxHeartbeats 2000000 in
set_option maxRecDepth 100000 in
theorem fagain_any (A : Option Addr) (n c : Nat) (l : List Int) (w : World) (hL : Lim w) (hr : Rb w A n c l) (hb : Oct.Bys l) :
    Calls Tryd.prog 8 #[.slice A n c] w fun e w' => e = .returned (.bool true) ∧ Below w.heap.size w w' := by
  have h0 := hL.lt
  have h0' : 0 < w.heap.size := by omega
  obtain ⟨K, hK⟩ : ∃ K, min n 2000 = K := ⟨_, rfl⟩
  obtain ⟨A2, hsl, hr2⟩ := rb_to hr (K := K) (by omega)
  have hmin : min (n : Int) 2000 = (K : Int) := by omega
  have hb2 : Oct.Bys (l.take K) := fun x hx => hb x (List.mem_of_mem_take hx)
  have hlen : (l.take K).length = K := hr2.1
  generalize l.take K = lt at *
  have hN := next_rb A2 K c lt w h0' hr2 (by omega) hb2
  have hbad := nxt_bad lt
  have hgood := fun h => Frm.nxt_good (b := lt) hb2 h
  obtain ⟨a, k, e, hx⟩ : ∃ a k e, Frm.nxt lt = (a, k, e) := ⟨_, _, _, rfl⟩
  rw [hx] at hN hbad hgood
  simp only at hbad hgood
  clear hx hr hb hb2 h0 h0'
  replace hL := Lib.hid hL
  replace hr2 := Lib.hid hr2
  replace hK := Lib.hid hK
  replace hlen := Lib.hid hlen
  by_cases he : e = 0
  · subst he
    obtain ⟨g1, g2, g3, g4⟩ := hgood rfl
    clear hbad hgood
    have hPar := Frm.parse_enc g1
    have hB2 : (Frm.bytes a).2 = 0 := by unfold Frm.bytes; rw [if_pos g1]
    rw [hlen.out] at g3
    replace g1 := Lib.hid g1
    replace hPar := Lib.hid hPar
    replace hB2 := Lib.hid hB2
    replace g4 := Lib.hid g4
    go_enter Tryd.func8, Tryd.ntmps8
    go_wp2_with fail
    with_reducible refine hN.mono ?_
    clear hN
    rintro e1 w1 ⟨A1, n1, c1, rfl, hrg, _, hb1⟩
    simp only [av]
    have hbx := Blk.new w1 25 #[.int .i64 a.d, .slice A1 n1 c1, .bool a.mkd, .int .i64 a.e0, .int .i64 a.e1, .int .i64 a.e2]
    have hb2 := laterA (Below.refl w1.heap.size w1) (.cells #[.int .i64 a.d, .slice A1 n1 c1, .bool a.mkd, .int .i64 a.e0, .int .i64 a.e1, .int .i64 a.e2] 25)
    have hn1 : n1 ≤ 256 := by
      have := hrg.1
      simp only at this
      obtain ⟨⟨p, t, hp, ht⟩, _⟩ := Frm.chk_parts g1.out
      rw [hp] at this
      simp at this
      omega
    have hrg2 := hrg.later hb2
    have hlow := old_later2 hb1 hb2 hb1.size
    have hB := bytes_any a A1 n1 c1 _ (hL.out.later hlow) hrg2 (by omega)
    obtain ⟨L, f, hY⟩ : ∃ L f, Frm.bytes a = (L, f) := ⟨_, _, rfl⟩
    replace g4 := g4.out
    have hLb := bytes_bys g1.out
    rw [hY] at hB hB2 hPar g4 hLb
    have hf : f = 0 := hB2.out
    subst hf
    simp only [av] at hB
    replace hbx := Lib.hid hbx
    replace hb2 := Lib.hid hb2
    replace hrg2 := Lib.hid hrg2
    replace hlow := Lib.hid hlow
    replace hLb := Lib.hid hLb
    clear hb1 hrg hB2
    go_wp2_with fail
    with_reducible refine hB.mono ?_
    clear hB
    rintro e2 w2 ⟨q3, A3, c3, rfl, hsl, hb⟩
    have hbx2 := Lib.hid (hbx.out.later hb)
    replace hrg2 := Lib.hid (hrg2.out.later hb)
    replace hlow := Lib.hid (old_later2 hlow.out hb hlow.out.size)
    clear hb hbx hb2
    simp only at hsl g4
    have hP := parse_any A3 L.length c3 q3 L w2 hsl (by omega) hLb.out
    rw [hPar.out] at hP
    replace hsl := Lib.hid hsl
    replace g4 := Lib.hid g4
    go_wp2_with fail
    with_reducible refine hP.mono ?_
    clear hP
    rintro e3 w3 ⟨A4, n4, c4, rfl, hrg4, _, hb⟩
    simp only [av]
    have hb4 := laterA (Below.refl w3.heap.size w3) (.cells #[.int .i64 a.d, .slice A4 n4 c4, .bool a.mkd, .int .i64 a.e0, .int .i64 a.e1, .int .i64 a.e2] 25)
    have hbx4 := Blk.new w3 25 #[.int .i64 a.d, .slice A4 n4 c4, .bool a.mkd, .int .i64 a.e0, .int .i64 a.e1, .int .i64 a.e2]
    have hbx3 := (hbx2.out.later hb).later hb4
    have hrg3 := (hrg2.out.later hb).later hb4
    have hrg5 := hrg4.later hb4
    have hlow4 := old_later2 (old_later2 hlow.out hb hlow.out.size) hb4 (old_later2 hlow.out hb hlow.out.size).size
    clear hlow hb hbx2 hrg2 hrg4
    obtain ⟨W4, hW4⟩ : ∃ W, w3.alloc (.cells #[.int .i64 a.d, .slice A4 n4 c4, .bool a.mkd, .int .i64 a.e0, .int .i64 a.e1, .int .i64 a.e2] 25) = W := ⟨_, rfl⟩
    rw [hW4] at hbx4 hbx3 hrg3 hrg5 hlow4 hb4
    have hC := check_any a A1 n1 c1 W4 hrg3 (by omega)
    unfold ChkPost at hC
    rw [g1.out, if_pos rfl] at hC
    simp only [av] at hC
    have c0 := hbx3.cell 0
    have c1' := hbx3.cell 1
    have c2 := hbx3.cell 2
    have c3' := hbx3.cell 3
    have c4' := hbx3.cell 4
    have c5 := hbx3.cell 5
    simp at c0 c1' c2 c3' c4' c5
    have hk1 : k ≥ 1 := g2
    replace hb4 := Lib.hid hb4
    replace hbx4 := Lib.hid hbx4
    replace hbx3 := Lib.hid hbx3
    replace hrg3 := Lib.hid hrg3
    replace hrg5 := Lib.hid hrg5
    replace hlow4 := Lib.hid hlow4
    go_wp2_with fail
    with_reducible refine hC.mono ?_
    clear hC c0 c1' c2 c3' c4' c5
    rintro e4 w5 ⟨rfl, hb⟩
    replace hlow4 := Lib.hid (old_later2 hlow4.out hb hlow4.out.size)
    have hbx5 := hbx4.out.later hb
    have hbx6 := hbx3.out.later hb
    have hrg6 := hrg3.out.later hb
    have hrg7 := hrg5.out.later hb
    have hS := fsame_any a a A1 A4 n1 c1 n4 c4 w5 hrg6 hrg7 (by omega)
    rw [(Frm.sm_iff a a).2 rfl] at hS
    simp only [av] at hS
    have c0 := hbx6.cell 0
    have c1' := hbx6.cell 1
    have c2 := hbx6.cell 2
    have c3' := hbx6.cell 3
    have c4' := hbx6.cell 4
    have c5 := hbx6.cell 5
    have d0 := hbx5.cell 0
    have d1 := hbx5.cell 1
    have d2 := hbx5.cell 2
    have d3 := hbx5.cell 3
    have d4 := hbx5.cell 4
    have d5 := hbx5.cell 5
    simp at c0 c1' c2 c3' c4' c5 d0 d1 d2 d3 d4 d5
    have hg4 : ((L.length : Nat) : Int) ≤ k := g4.out
    clear hb hbx4 hbx3 hrg3 hrg5
    go_wp2_with fail
    with_reducible refine hS.mono ?_
    rintro e4 w6 ⟨rfl, hb⟩
    replace hlow4 := Lib.hid (old_later2 hlow4.out hb hlow4.out.size)
    clear hb hS
    have hW := fworks_any w6 (hL.out.later hlow4.out)
    go_wp2_with fail
    with_reducible refine hW.mono ?_
    rintro e2 w7 ⟨rfl, hb3⟩
    go_wp2
    go_ret
    exact ⟨rfl, old_later2 hlow4.out hb3 hlow4.out.size⟩
  · obtain ⟨rfl, rfl⟩ := hbad he
    clear hgood hbad
    go_enter Tryd.func8, Tryd.ntmps8
    go_wp2_with fail
    with_reducible refine hN.mono ?_
    clear hN
    rintro e1 w1 ⟨A1, n1, c1, rfl, hrg, _, hb1⟩
    simp only [av, Frm.zero]
    have hbx := Blk.new w1 25 #[.int .i64 0, .slice A1 n1 c1, .bool false, .int .i64 0, .int .i64 0, .int .i64 0]
    have hb2 := laterA (Below.refl w1.heap.size w1) (.cells #[.int .i64 0, .slice A1 n1 c1, .bool false, .int .i64 0, .int .i64 0, .int .i64 0] 25)
    have hS := fsame_any Frm.zero Frm.zero A1 none n1 c1 0 0 _ (hrg.later hb2) Rg.zero (by have := hrg.1; simp [Frm.zero] at this; omega)
    rw [show Frm.sm Frm.zero Frm.zero = true from by kernel_rfl] at hS
    simp only [av, Frm.zero] at hS
    have hlow := Lib.hid (old_later2 hb1 hb2 hb1.size)
    replace hbx := Lib.hid hbx
    replace hb2 := Lib.hid hb2
    go_wp2_with fail
    with_reducible refine hS.mono ?_
    rintro e2 w2 ⟨rfl, hb3⟩
    replace hlow := Lib.hid (old_later2 hlow.out hb3 hlow.out.size)
    clear hb3 hS
    have hW := fworks_any w2 (hL.out.later hlow.out)
    go_wp2_with fail
    with_reducible refine hW.mono ?_
    rintro e2 w3 ⟨rfl, hb3⟩
    go_wp2
    go_ret
    exact ⟨rfl, old_later2 hlow.out hb3 hlow.out.size⟩
end Go.Proofs.YtpagdcobhbkabaaDoor
