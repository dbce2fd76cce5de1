/-
  Layer 5: the document's Next for a known first byte.
-/
import Derived.Test.YtpagdcobhbkabaaDoorFrK
import Derived.Test.YtpagdcobhbkabaaDoorFrS
namespace Go.Proofs.YtpagdcobhbkabaaDoor
open Go.RowKit Go.Sort Go.Shelf Go.Deep Go.WideShapes

theorem dn_st (s : Oct.St) : dn s s.e = ((Oct.num s).1, (Oct.num s).2, (Oct.num s).2.e) := by
  unfold dn
  by_cases h : s.e = 0
  · rw [if_pos h]
  · rw [if_neg h]
    unfold Oct.num
    rw [if_neg h]
theorem dn_stuck (s : Oct.St) {E : Int} (h : E ≠ 0) : dn s E = (0, s, E) := by unfold dn; rw [if_neg h]
theorem da_stuck (s : Oct.St) {E : Int} (h : E ≠ 0) (acc : List (Int × Int)) (hi : Int) : da s E acc hi = (0, s, E, acc) := by
  unfold da
  rw [dn_stuck s h]
  simp only
  rw [if_neg h]
/-- The numbers of the head, as the document's reader has them. -/
theorem dn_head {l : List Int} {n1 n2 n3 : Int} {s1 s2 s3 : Oct.St} {E1 E2 E3 : Int} (h1 : dn ⟨l, 0⟩ 0 = (n1, s1, E1)) (h2 : dn s1 E1 = (n2, s2, E2)) (h3 : dn s2 E2 = (n3, s3, E3)) :
    (Oct.numL l).1 = n1 ∧ (Oct.num (Oct.numL l).2).1 = n2 ∧ (Oct.num (Oct.num (Oct.numL l).2).2).1 = n3 ∧ (Oct.num (Oct.num (Oct.numL l).2).2).2 = s3 ∧ s3.e = E3 := by
  have k1 : dn ⟨l, 0⟩ 0 = ((Oct.numL l).1, (Oct.numL l).2, (Oct.numL l).2.e) := dn_st ⟨l, 0⟩
  rw [k1] at h1
  simp only [Prod.mk.injEq] at h1
  obtain ⟨rfl, rfl, rfl⟩ := h1
  rw [dn_st] at h2
  simp only [Prod.mk.injEq] at h2
  obtain ⟨rfl, rfl, rfl⟩ := h2
  rw [dn_st] at h3
  simp only [Prod.mk.injEq] at h3
  obtain ⟨rfl, rfl, rfl⟩ := h3
  exact ⟨rfl, rfl, rfl, rfl, rfl⟩
theorem body_doc {l : List Int} {n1 n2 n3 : Int} {s1 s2 s3 s5 : Oct.St} {E1 E2 E3 E4 E5 : Int} {rs : List (Int × Int)} (h1 : dn ⟨l, 0⟩ 0 = (n1, s1, E1)) (h2 : dn s1 E1 = (n2, s2, E2)) (h3 : dn s2 E2 = (n3, s3, E3))
    (h4 : (if E3 = 0 ∧ 256 ≤ n3 then 5 else E3) = E4) (h5 : dr2 n3.toNat (da s3 E4 [] n1).1 (da s3 E4 [] n1).2.1 (da s3 E4 [] n1).2.2.1 (da s3 E4 [] n1).2.2.2 = (s5, E5, rs)) (mk : Bool) :
    (Frm.body mk l = if E5 = 0 then Frm.marks n2 mk rs s5.l else .error E5) ∧ (E5 = 0 → s5.e = 0) ∧ (E4 ≠ 0 → E5 ≠ 0) := by
  obtain ⟨a1, a2, a3, a4, a5⟩ := dn_head h1 h2 h3
  rw [Frm.body_cont, a1, a2, a3, a4, a5]
  clear h1 h2 h3 a1 a2 a3 a4
  by_cases c : E3 = 0 ∧ 256 ≤ n3
  · rw [if_pos c] at h4 ⊢
    subst h4
    rw [da_stuck s3 (show (5 : Int) ≠ 0 by decide), dr2_err _ _ _ (show (5 : Int) ≠ 0 by decide)] at h5
    simp only [Prod.mk.injEq] at h5
    obtain ⟨_, rfl, _⟩ := h5
    exact ⟨by rw [if_neg (by decide)], fun h => absurd h (by decide), fun h => h⟩
  · rw [if_neg c] at h4 ⊢
    subst h4
    unfold Frm.cont
    rw [a5]
    by_cases h0 : E3 = 0
    · rw [if_pos h0]
      subst h0
      obtain ⟨l3, e3⟩ := s3
      simp only at a5
      subst a5
      have hg := dr2_rg n3.toNat n1 l3 []
      have hne := Frm.rg_err n3.toNat n1 l3
      cases hr : Frm.rg n3.toNat n1 l3 with
      | error e =>
        rw [hr] at hg hne
        simp only at hg
        rw [h5] at hg
        simp only at hg
        subst hg
        have hne2 : E5 ≠ 0 := fun h => hne (by rw [h])
        exact ⟨by rw [if_neg hne2], fun h => absurd h hne2, fun _ => hne2⟩
      | ok x =>
        obtain ⟨rs2, r⟩ := x
        rw [hr] at hg
        simp only [List.nil_append] at hg
        rw [hg] at h5
        simp only [Prod.mk.injEq] at h5
        obtain ⟨rfl, rfl, rfl⟩ := h5
        exact ⟨rfl, fun _ => rfl, fun h => absurd rfl h⟩
    · rw [if_neg h0]
      rw [da_stuck s3 h0, dr2_err _ _ _ h0] at h5
      simp only [Prod.mk.injEq] at h5
      obtain ⟨_, rfl, _⟩ := h5
      exact ⟨by rw [if_neg h0], fun h => absurd h h0, fun h => h⟩
theorem body_doc0 {l : List Int} {n1 n2 n3 : Int} {s1 s2 s3 s5 : Oct.St} {E1 E2 E3 E4 E5 : Int} {rs : List (Int × Int)} (h1 : dn ⟨l, 0⟩ 0 = (n1, s1, E1)) (h2 : dn s1 E1 = (n2, s2, E2)) (h3 : dn s2 E2 = (n3, s3, E3))
    (h4 : (if E3 = 0 ∧ 256 ≤ n3 then 5 else E3) = E4) (h5 : dr2 n3.toNat (da s3 E4 [] n1).1 (da s3 E4 [] n1).2.1 (da s3 E4 [] n1).2.2.1 (da s3 E4 [] n1).2.2.2 = (s5, E5, rs)) :
    (Frm.body false l = if E5 = 0 then .ok (⟨n2, rs, false, 0, 0, 0⟩, s5.l) else .error E5) ∧ (E4 ≠ 0 → E5 ≠ 0) := by
  obtain ⟨b1, b2, b3⟩ := body_doc h1 h2 h3 h4 h5 false
  exact ⟨by rw [b1]; rfl, b3⟩
theorem body_doc1 {l : List Int} {n1 n2 n3 x y z : Int} {s1 s2 s3 s5 s6 s7 s8 : Oct.St} {E1 E2 E3 E4 E5 E6 E7 E8 : Int} {rs : List (Int × Int)} (h1 : dn ⟨l, 0⟩ 0 = (n1, s1, E1)) (h2 : dn s1 E1 = (n2, s2, E2)) (h3 : dn s2 E2 = (n3, s3, E3))
    (h4 : (if E3 = 0 ∧ 256 ≤ n3 then 5 else E3) = E4) (h5 : dr2 n3.toNat (da s3 E4 [] n1).1 (da s3 E4 [] n1).2.1 (da s3 E4 [] n1).2.2.1 (da s3 E4 [] n1).2.2.2 = (s5, E5, rs))
    (h6 : dn s5 E5 = (x, s6, E6)) (h7 : dn s6 E6 = (y, s7, E7)) (h8 : dn s7 E7 = (z, s8, E8)) :
    (Frm.body true l = if E8 = 0 then .ok (⟨n2, rs, true, x, y, z⟩, s8.l) else .error E8) ∧ (E4 ≠ 0 → E8 ≠ 0) := by
  obtain ⟨b1, b2, b3⟩ := body_doc h1 h2 h3 h4 h5 true
  rw [b1]
  clear b1 h1 h2 h3 h4 h5
  by_cases c : E5 = 0
  · rw [if_pos c]
    refine ⟨?_, fun h => absurd c (b3 h)⟩
    have e5 := b2 c
    subst c
    obtain ⟨l5, e5'⟩ := s5
    simp only at e5
    subst e5
    obtain ⟨a1, a2, a3, a4, a5⟩ := dn_head h6 h7 h8
    unfold Frm.marks
    simp only
    rw [if_pos trivial, a1, a2, a3, a4, a5]
  · rw [if_neg c]
    rw [dn_stuck _ c] at h6
    simp only [Prod.mk.injEq] at h6
    obtain ⟨_, rfl, rfl⟩ := h6
    rw [dn_stuck _ c] at h7
    simp only [Prod.mk.injEq] at h7
    obtain ⟨_, rfl, rfl⟩ := h7
    rw [dn_stuck _ c] at h8
    simp only [Prod.mk.injEq] at h8
    obtain ⟨_, rfl, rfl⟩ := h8
    exact ⟨by rw [if_neg c], fun h => b3 h⟩

/-- The state of Next: the reader, the box of the result, the first byte. -/
structure NX (w0 w : World) (a0 : Addr) (t : Int) (Bd P p q : Nat) (s : Oct.St) (E : Int) (mk : Bool) (acc : List (Int × Int)) : Prop where
  da : DA w Bd P p q s E mk acc
  bx : Blk w w0.heap.size 25 #[.int .i64 0, .slice none 0 0, .bool false, .int .i64 0, .int .i64 0, .int .i64 0]
  t0 : w.cell? a0 = some (.int .u8 t)
  low : Below w0.heap.size w0 w
structure NA (B0 : Nat) (a0 : Addr) (Bd P p q : Nat) : Prop where
  ap : Apb Bd P p q
  P : B0 < P
  p : B0 < p
  B : B0 < Bd
  a0 : a0.block < B0
theorem NX.num {w0 w : World} {a0 : Addr} {t : Int} {Bd P p q : Nat} {s : Oct.St} {E : Int} {mk : Bool} {acc : List (Int × Int)} (h : NX w0 w a0 t Bd P p q s E mk acc) (ha : NA w0.heap.size a0 Bd P p q) :
    Calls Tryd.prog 51 #[.pointer (some ⟨P, 0, none⟩)] w fun e w' => e = .returned (.int .i64 (dn s E).1) ∧ NX w0 w' a0 t Bd P p q (dn s E).2.1 (dn s E).2.2 mk acc ∧ Only (fun k => k = p ∨ k = P) w w' := by
  obtain ⟨⟨⟨v, hdr, hown⟩, hsz⟩, hbx, ht0, hlow⟩ := h
  refine (dnum_any P p q s E mk v w hdr ha.ap.ap).mono ?_
  rintro e w1 ⟨he, hdr1, hon⟩
  have h1 := ha.ap.P
  have h2 := ha.ap.p
  have h3 := ha.P
  have h4 := ha.p
  have h5 := ha.a0
  refine ⟨he, ⟨⟨⟨v, hdr1, hown.only hon (fun g hg hf => by have := (hown.low g hg).1; omega)⟩, Nat.le_trans hsz hon.size⟩, hbx.only hon (by omega), cell_only hon (by omega) ht0, only_old hlow hon (by omega) hlow.size⟩, hon⟩
theorem NX.range {w0 w : World} {a0 : Addr} {t : Int} {Bd P p q : Nat} {s : Oct.St} {E : Int} {mk : Bool} {acc : List (Int × Int)} (h : NX w0 w a0 t Bd P p q s E mk acc) : 0 ≤ (dn s E).1 ∧ (dn s E).1 ≤ 9007199254740991 := by
  obtain ⟨⟨⟨v, hdr, _⟩, _⟩, _⟩ := h
  exact dn_range hdr
theorem NX.err {w0 w : World} {a0 : Addr} {t : Int} {Bd P p q : Nat} {s : Oct.St} {E : Int} {mk : Bool} {acc : List (Int × Int)} (h : NX w0 w a0 t Bd P p q s E mk acc) : w.cell? ⟨P, 7, none⟩ = some (.int .i64 E) ∧ w.frozen? ⟨P, 7, none⟩ = false := by
  obtain ⟨⟨⟨v, hdr, _⟩, _⟩, _⟩ := h
  have c7 := hdr.bx.cell 7
  simp at c7
  exact ⟨c7, hdr.bx.frozen 7⟩
theorem NX.fail {w0 w : World} {a0 : Addr} {t : Int} {Bd P p q : Nat} {s : Oct.St} {E : Int} {mk : Bool} {acc : List (Int × Int)} (h : NX w0 w a0 t Bd P p q s E mk acc) (ha : NA w0.heap.size a0 Bd P p q) (x : Int) : NX w0 (w.setCell ⟨P, 7, none⟩ (.int .i64 x)) a0 t Bd P p q s x mk acc := by
  obtain ⟨⟨⟨v, hdr, hown⟩, hsz⟩, hbx, ht0, hlow⟩ := h
  have hoS : Only (· = P) w (w.setCell ⟨P, 7, none⟩ (.int .i64 x)) := Only.set (F := (· = P)) (p := ⟨P, 7, none⟩) (Only.refl _ w) rfl _
  have h1 := ha.ap.P
  have h3 := ha.P
  have h5 := ha.a0
  exact ⟨⟨⟨v, ⟨hdr.bx.set_ 7 _, hdr.rd.only hoS (Ne.symm ha.ap.ap.Pp) (Ne.symm ha.ap.ap.Pq)⟩, hown.only hoS (fun g hg hf => by have := (hown.low g hg).1; omega)⟩, Nat.le_trans hsz hoS.size⟩, hbx.only hoS (by omega), cell_only hoS (by omega) ht0, only_old hlow hoS (by omega) hlow.size⟩
theorem NX.ranges {w0 w : World} {a0 : Addr} {t : Int} {Bd P p q : Nat} {s : Oct.St} {E : Int} {mk : Bool} (h : NX w0 w a0 t Bd P p q s E mk []) (ha : NA w0.heap.size a0 Bd P p q) (hi more : Int) (hh0 : 0 ≤ hi) (hh1 : hi ≤ 9007199254740991) (hm0 : 0 ≤ more) (hm : more ≤ 9007199254740991) (hme : E = 0 → more < 256) :
    Calls Tryd.prog 52 #[.pointer (some ⟨P, 0, none⟩), .int .i64 hi, .int .i64 more] w fun e w' => (∃ r, e = .returned r) ∧ ∃ s' E' acc', dr2 more.toNat (Go.Proofs.YtpagdcobhbkabaaDoor.da s E [] hi).1 (Go.Proofs.YtpagdcobhbkabaaDoor.da s E [] hi).2.1 (Go.Proofs.YtpagdcobhbkabaaDoor.da s E [] hi).2.2.1 (Go.Proofs.YtpagdcobhbkabaaDoor.da s E [] hi).2.2.2 = (s', E', acc') ∧ acc'.length ≤ 257 ∧ NX w0 w' a0 t Bd P p q s' E' mk acc' := by
  obtain ⟨hda, hbx, ht0, hlow⟩ := h
  have hR := dranges_any Bd P p q s E mk hi more.toNat w hda ha.ap hh0 hh1 (by omega) (fun h => by have := hme h; omega)
  rw [show ((more.toNat : Nat) : Int) = more by omega] at hR
  refine hR.mono ?_
  rintro e w1 ⟨he, s', E', acc', hd, hda1, hl, hon⟩
  have h1 := ha.ap.P
  have h2 := ha.ap.p
  have h3 := ha.P
  have h4 := ha.p
  have h5 := ha.a0
  have h6 := ha.B
  exact ⟨he, s', E', acc', hd, hl, hda1, hbx.only hon (by omega), cell_only hon (by omega) ht0, only_old hlow hon (by omega) hlow.size⟩
theorem NX.later {w0 w w' : World} {a0 : Addr} {t : Int} {Bd P p q : Nat} {s : Oct.St} {E : Int} {mk : Bool} {acc : List (Int × Int)} (h : NX w0 w a0 t Bd P p q s E mk acc) (hb : Below w.heap.size w w') : NX w0 w' a0 t Bd P p q s E mk acc := by
  obtain ⟨⟨⟨v, hdr, hown⟩, hsz⟩, hbx, ht0, hlow⟩ := h
  exact ⟨⟨⟨v, ⟨hdr.bx.later hb, hdr.rd.later hb⟩, hown.later hb⟩, Nat.le_trans hsz hb.size⟩, hbx.later hb, cell_only (Only.of_below (F := fun _ => False) hb) id ht0, old_later2 hlow hb hlow.size⟩
theorem NX.mark {w0 w : World} {a0 : Addr} {t : Int} {Bd P p q : Nat} {s : Oct.St} {E : Int} {mk : Bool} {acc : List (Int × Int)} (h : NX w0 w a0 t Bd P p q s E mk acc) (ha : NA w0.heap.size a0 Bd P p q) {M : Nat} {cs : Array Value} {ty : TypeId} (hM : Blk w M ty cs) (hty : 36 ≠ ty) (hB : Bd ≤ M) (i : Nat) (u : Value) : NX w0 (w.setCell ⟨M, i, none⟩ u) a0 t Bd P p q s E mk acc := by
  obtain ⟨⟨⟨v, hdr, hown⟩, hsz⟩, hbx, ht0, hlow⟩ := h
  have hoS : Only (· = M) w (w.setCell ⟨M, i, none⟩ u) := Only.set (F := (· = M)) (p := ⟨M, i, none⟩) (Only.refl _ w) rfl _
  have h1 := ha.ap.P
  have h2 := ha.ap.p
  have h3 := ha.ap.q
  have h4 := ha.B
  have h5 := ha.a0
  exact ⟨⟨⟨v, ⟨hdr.bx.only hoS (by omega), hdr.rd.only hoS (by omega) (by omega)⟩, hown.only hoS (fun g hg hf => by subst hf; exact OwnS.ne hown hM hty hg)⟩, Nat.le_trans hsz hoS.size⟩, hbx.only hoS (by omega), cell_only hoS (by omega) ht0, only_old hlow hoS (by omega) hlow.size⟩
theorem cell_drew (w : World) (p : Addr) : w.drew.cell? p = w.cell? p := rfl
/-- What is read behind the ranges. -/
theorem NX.box {w0 w : World} {a0 : Addr} {t : Int} {Bd P p q : Nat} {s : Oct.St} {E : Int} {mk : Bool} {acc : List (Int × Int)} (h : NX w0 w a0 t Bd P p q s E mk acc) :
    ∃ A c, Blk w P 76 #[.pointer (some ⟨p, 0, none⟩), .int .i64 0, .slice A acc.length c, .bool mk, .int .i64 0, .int .i64 0, .int .i64 0, .int .i64 E] ∧ Rg w A acc.length c acc ∧ (∀ x, A = some x → Bd ≤ x.block) ∧ RRdr w p q s := by
  obtain ⟨⟨⟨v, hdr, hown⟩, hsz⟩, _, _, _⟩ := h
  obtain ⟨A, c, rfl, hr, hf⟩ := hown.rg
  exact ⟨A, c, hdr.bx, hr, hf, hdr.rd⟩

set_option maxHeartbeats 8000000 in
set_option maxRecDepth 100000 in
theorem dnext_some (A : Option Addr) (n c q0 : Nat) (t : Int) (l : List Int) (w : World) (h : Sl w q0 A n c (t :: l)) (hs : n ≤ 10000) (hb : Oct.Bys (t :: l)) (ht : t = 2 ∨ t = 3) :
    Calls Tryd.prog 27 #[.slice A n c] w (AckN w (Frm.nxt (t :: l))) := by
  have hn := h.1
  obtain ⟨A1, hsl, hs1⟩ := slice_from h (K := 1) (by rw [← hn]; simp)
  rw [List.drop_one, List.tail_cons] at hs1
  have hsl1 : ∀ W : World, (Instr.slice 27 (.slice A n c) (some (.int .i64 1)) none none).run Tryd.prog W = .ok (.slice A1 (n - 1) (c - 1)) W := hsl
  clear hsl
  obtain ⟨off, rfl, hq0, ht0⟩ : ∃ off, A = some ⟨q0, off, none⟩ ∧ q0 < w.heap.size ∧ w.cell? ⟨q0, off, none⟩ = some (.int .u8 t) := by
    obtain ⟨h1, h2, h3, ⟨_, h4, _⟩ | ⟨off, rfl, hq, h5⟩⟩ := h
    · rw [h4] at h1; simp at h1
    · exact ⟨off, rfl, hq, by have := h5 0 (by simp); simpa using this⟩
  have hpos : (0 : Int) < (n : Int) := by rw [← hn]; simp
  have hposn : 0 < n := by omega
  have hbx := Blk.new w 25 #[.int .i64 0, .slice none 0 0, .bool false, .int .i64 0, .int .i64 0, .int .i64 0]
  have hb0 := laterA (Below.refl w.heap.size w) (.cells #[.int .i64 0, .slice none 0 0, .bool false, .int .i64 0, .int .i64 0, .int .i64 0] 25)
  have hN := rnewr2_any A1 (n - 1) (c - 1) l (w.alloc (.cells #[.int .i64 0, .slice none 0 0, .bool false, .int .i64 0, .int .i64 0, .int .i64 0] 25)).drew (by show 0 < (w.alloc (.cells #[.int .i64 0, .slice none 0 0, .bool false, .int .i64 0, .int .i64 0, .int .i64 0] 25)).heap.size; simp) (hs1.later (laterD_ hb0)).rb (by omega) hb.tail
  obtain ⟨mk, hmk⟩ : ∃ mk, decide (t = 3) = mk := ⟨_, rfl⟩
  obtain ⟨Y, hY⟩ : ∃ Y, Frm.nxt (t :: l) = Y := ⟨_, rfl⟩
  rw [hY]
  have hX : Y = match Frm.body mk l with
      | .error e => (Frm.zero, 0, e)
      | .ok (a, r) => (a, (n : Int) - r.length, 0) := by
    rw [← hY, nxt_cons, if_pos ht, hmk, hn]
    rfl
  replace ht : (t = 2 ∧ mk = false) ∨ (t = 3 ∧ mk = true) := by rcases ht with rfl | rfl <;> simp [← hmk]
  clear hmk hY
  have t0 := (hb0.cell (p := ⟨q0, off, none⟩) hq0).trans ht0
  clear hs1 h hb
  replace hbx := Lib.hid hbx
  replace hb0 := Lib.hid hb0
  replace hX := Lib.hid hX
  replace hN := Lib.hid hN
  go_enter Tryd.func27, Tryd.ntmps27
  rcases ht with ⟨rfl, rfl⟩ | ⟨rfl, rfl⟩
  · go_wp2_with fail
    go_region_held3 (fun w' => w'.cell? ⟨q0, off, none⟩ = some (.int .u8 2)) (first | exact t0 | exact t1 | exact cell_al t1 _ | fail) (first | (go_at_call 50; (with_reducible refine hN.out.mono ?_); rintro e w1 ⟨p, q, rfl, hrd, hat, hb1⟩; have t1 := (cell_only (Only.of_below (F := fun _ => False) hb1) id t0); replace hrd := Lib.hid hrd; replace hat := Lib.hid hat; replace hb1 := Lib.hid hb1) | fail)
    rename_i hHeld
    clear hHeld
    have hP1 := Blk.new w1 76 #[.pointer (some ⟨p, 0, none⟩), .int .i64 0, .slice none 0 0, .bool false, .int .i64 0, .int .i64 0, .int .i64 0, .int .i64 0]
    have hl1 := laterA (Below.refl w1.heap.size w1) (.cells #[.pointer (some ⟨p, 0, none⟩), .int .i64 0, .slice none 0 0, .bool false, .int .i64 0, .int .i64 0, .int .i64 0, .int .i64 0] 76)
    have hq1 := hat.out.q1
    have hp1 := hat.out.p1
    have hpw : w.heap.size < p := by have hh := hat.out.p0; simp [World.drew] at hh; omega
    have hne := hat.out.ne
    have hb0s : w.heap.size < w1.heap.size := by omega
    have hlow := old_later2 (old_later2 (laterD_ hb0.out) hb1.out (laterD_ hb0.out).size) hl1 (old_later2 (laterD_ hb0.out) hb1.out (laterD_ hb0.out).size).size
    have hbxR := ((hbx.out.drew).later hb1.out).later hl1
    have t2 := cell_al t1 (.cells #[.pointer (some ⟨p, 0, none⟩), .int .i64 0, .slice none 0 0, .bool false, .int .i64 0, .int .i64 0, .int .i64 0, .int .i64 0] 76)
    have hrd1 := hrd.out.later hl1
    have hszW : w1.heap.size + 1 ≤ (w1.alloc (.cells #[.pointer (some ⟨p, 0, none⟩), .int .i64 0, .slice none 0 0, .bool false, .int .i64 0, .int .i64 0, .int .i64 0, .int .i64 0] 76)).heap.size := by simp
    generalize w1.alloc (.cells #[.pointer (some ⟨p, 0, none⟩), .int .i64 0, .slice none 0 0, .bool false, .int .i64 0, .int .i64 0, .int .i64 0, .int .i64 0] 76) = W1 at hP1 hl1 hlow hbxR t2 hrd1 hszW ⊢
    clear hl1 t0 t1 hbx hb0 hrd hb1 hN hat
    generalize w1.heap.size = P at *
    clear w1
    have hNA : NA w.heap.size ⟨q0, off, none⟩ (P + 1) P p q := ⟨⟨⟨hne, by omega, by omega⟩, by omega, by omega, by omega⟩, by omega, hpw, by omega, hq0⟩
    have hX1 : NX w W1 ⟨q0, off, none⟩ 2 (P + 1) P p q ⟨l, 0⟩ 0 false [] := ⟨⟨⟨_, ⟨hP1, hrd1⟩, OwnS.nil _⟩, hszW⟩, hbxR, t2, hlow⟩
    clear hP1 hrd1 hszW hbxR t2 hlow hq1 hp1 hpw hne hb0s
    obtain ⟨n1, s1, E1, hR1⟩ : ∃ a b c, dn ⟨l, 0⟩ 0 = (a, b, c) := ⟨_, _, _, rfl⟩
    obtain ⟨n2, s2, E2, hR2⟩ : ∃ a b c, dn s1 E1 = (a, b, c) := ⟨_, _, _, rfl⟩
    obtain ⟨n3, s3, E3, hR3⟩ : ∃ a b c, dn s2 E2 = (a, b, c) := ⟨_, _, _, rfl⟩
    have hg1 := hX1.range
    rw [hR1] at hg1
    have hN1 := hX1.num hNA
    rw [hR1] at hN1
    simp only at hN1 hg1
    replace hX1 := Lib.hid hX1
    replace hNA := Lib.hid hNA
    replace hR1 := Lib.hid hR1
    replace hR2 := Lib.hid hR2
    replace hR3 := Lib.hid hR3
    go_wp2_with fail
    with_reducible refine hN1.mono ?_
    clear hN1 hX1
    rintro e w2 ⟨rfl, hX1, _⟩
    have hN1 := hX1.num hNA.out
    rw [hR2.out] at hN1
    simp only at hN1
    replace hX1 := Lib.hid hX1
    go_wp2_with fail
    with_reducible refine hN1.mono ?_
    clear hN1 hX1
    rintro e w3 ⟨rfl, hX1, _⟩
    have hN1 := hX1.num hNA.out
    have hg3 := hX1.range
    rw [hR3.out] at hN1 hg3
    simp only at hN1 hg3
    replace hX1 := Lib.hid hX1
    go_wp2_with fail
    with_reducible refine hN1.mono ?_
    clear hN1 hX1
    rintro e w4 ⟨rfl, hX1, _⟩
    have c7 := hX1.err.1
    have f7 := hX1.err.2
    replace hX1 := Lib.hid hX1
  
    by_cases hc : E3 = 0 ∧ 256 ≤ n3
    · obtain ⟨rfl, hge⟩ := hc
      have hge' : n3 ≥ 256 := hge
      have hX2 := hX1.out.fail hNA.out 5
      have hRg := hX2.ranges hNA.out n1 n3 hg1.1 hg1.2 hg3.1 hg3.2 (fun h => absurd h (by decide))
      have hE4 : (if (0 : Int) = 0 ∧ 256 ≤ n3 then (5 : Int) else 0) = 5 := by rw [if_pos ⟨rfl, hge⟩]
      replace hE4 := Lib.hid hE4
      clear hX1 hX2 hge
      go_wp2_with fail
      with_reducible refine hRg.mono ?_
      clear hRg c7 f7
      rintro e w5 ⟨⟨r, rfl⟩, s5, E5, acc, hd, hal, hX3⟩
      have hMl := laterA (Below.refl w5.heap.size w5) (.cells #[.int .i64 0, .int .i64 0, .int .i64 0] 23)
      have hX4 := hX3.later hMl
      have hM := Blk.new w5 23 #[.int .i64 0, .int .i64 0, .int .i64 0]
      have hBM := hX3.da.sz
      have hP := hNA.out.ap.P
      have hp := hNA.out.ap.p
      clear hX3 hMl
      replace hal := Lib.hid hal
      replace hX4 := Lib.hid hX4
      replace hM := Lib.hid hM
      replace hd := Lib.hid hd
      go_wp2_with fail
      obtain ⟨W5, hW5⟩ : ∃ W, w5.alloc (.cells #[.int .i64 0, .int .i64 0, .int .i64 0] 23) = W := ⟨_, rfl⟩
      rw [hW5] at hX4 hM ⊢
      clear hW5
      generalize w5.heap.size = M at *
      clear w5
      have t5 := hX4.out.t0
      have c5 := hX4.out.err.1
      refine wp_loop_rounds 4 ?_
      have hBd := body_doc0 hR1.out hR2.out hR3.out (by rw [if_pos ⟨rfl, hge'⟩]) hd.out
      have h5 := hBd.2 (by decide)
      have hYe : Y = (Frm.zero, 0, E5) := by rw [hX.out, hBd.1, if_neg h5]
      have hbx5 := hX4.out.bx.drew
      have f0 := hbx5.setSame 0 (.int .i64 0) rfl
      have f1 := hbx5.setSame 1 (.slice none 0 0) rfl
      have f2 := hbx5.setSame 2 (.bool false) rfl
      have f3 := hbx5.setSame 3 (.int .i64 0) rfl
      have f4 := hbx5.setSame 4 (.int .i64 0) rfl
      have f5 := hbx5.setSame 5 (.int .i64 0) rfl
      have hlow5 := laterD_ hX4.out.low
      have y0 := hbx5.cell 0
      have z0 := hbx5.frozen 0
      have y1 := hbx5.cell 1
      have z1 := hbx5.frozen 1
      have y2 := hbx5.cell 2
      have z2 := hbx5.frozen 2
      have y3 := hbx5.cell 3
      have z3 := hbx5.frozen 3
      have y4 := hbx5.cell 4
      have z4 := hbx5.frozen 4
      have y5 := hbx5.cell 5
      have z5 := hbx5.frozen 5
      simp at y0 y1 y2 y3 y4 y5
      clear hBd hX hNA hR1 hR2 hR3 hd hg1 hg3 hsl1 hn ht0 hq0 hs
      replace hYe := Lib.hid hYe
      replace hlow5 := Lib.hid hlow5
      replace hbx5 := Lib.hid hbx5
      rw [rounds_succ]
      go_wp2_with fail
      go_wp2_with fail
      go_region_held3 (fun w' => w'.cell? ⟨P, 7, none⟩ = some (.int .i64 E5)) (first | exact c5 | (simp only [f0, f1, f2, f3, f4, f5]; exact c5) | fail) (fail)
      go_wp2_with fail
      refine bodyPost_ret (results_c3 rfl _ _ rfl hbx5.out rfl) rfl ?_
      rw [hYe.out]
      exact ⟨none, 0, 0, rfl, Rg.zero, no_addr, hlow5.out⟩
  
    · by_cases hE : E3 = 0
      · subst hE
        have hge' : ¬ n3 ≥ 256 := fun h => hc ⟨rfl, h⟩
        have hRg := hX1.out.ranges hNA.out n1 n3 hg1.1 hg1.2 hg3.1 hg3.2 (fun _ => by omega)
        have hE4 : (if (0 : Int) = 0 ∧ 256 ≤ n3 then (5 : Int) else 0) = 0 := by rw [if_neg hc]
        replace hE4 := Lib.hid hE4
        clear hX1 hc
        go_wp2_with fail
        with_reducible refine hRg.mono ?_
        clear hRg c7 f7
        rintro e w5 ⟨⟨r, rfl⟩, s5, E5, acc, hd, hal, hX3⟩
        have hMl := laterA (Below.refl w5.heap.size w5) (.cells #[.int .i64 0, .int .i64 0, .int .i64 0] 23)
        have hX4 := hX3.later hMl
        have hM := Blk.new w5 23 #[.int .i64 0, .int .i64 0, .int .i64 0]
        have hBM := hX3.da.sz
        have hP := hNA.out.ap.P
        have hp := hNA.out.ap.p
        clear hX3 hMl
        replace hal := Lib.hid hal
        replace hX4 := Lib.hid hX4
        replace hM := Lib.hid hM
        replace hd := Lib.hid hd
        go_wp2_with fail
        obtain ⟨W5, hW5⟩ : ∃ W, w5.alloc (.cells #[.int .i64 0, .int .i64 0, .int .i64 0] 23) = W := ⟨_, rfl⟩
        rw [hW5] at hX4 hM ⊢
        clear hW5
        generalize w5.heap.size = M at *
        clear w5
        have t5 := hX4.out.t0
        have c5 := hX4.out.err.1
        refine wp_loop_rounds 4 ?_
        have hBd := body_doc0 hR1.out hR2.out hR3.out (by rw [if_neg (fun h => by have := h.2; omega)]) hd.out
        by_cases h5 : E5 = 0
        · subst h5
          obtain ⟨A5, cap5, hbP, hrg, hfr, hrd⟩ := hX4.out.box
          have hYe : Y = (⟨n2, acc, false, 0, 0, 0⟩, (n : Int) - s5.l.length, 0) := by rw [hX.out, hBd.1, if_pos rfl]
          have hBlt := hNA.out.B
          have hPB0 : P ≠ w.heap.size := by have := hNA.out.P; omega
          have hXB0 : w.heap.size < W5.heap.size := by have := hM.out.lt; omega
          have x0 := hbP.cell 0
          have x1 := hbP.cell 1
          have x2 := hbP.cell 2
          have x3 := hbP.cell 3
          have x4 := hbP.cell 4
          have x5 := hbP.cell 5
          have x6 := hbP.cell 6
          have x7 := hbP.cell 7
          simp at x0 x1 x2 x3 x4 x5 x6 x7
          have hM6 := hM.out.later (laterA (Below.refl _ _) (.cells #[.int .i64 n2, .slice A5 acc.length cap5, .bool false, .int .i64 0, .int .i64 0, .int .i64 0] 25))
          have m0 := hM6.cell 0
          have m1 := hM6.cell 1
          have m2 := hM6.cell 2
          simp only [List.getElem?_toArray, List.getElem?_cons_zero, List.getElem?_cons_succ] at m0 m1 m2
          have hl6 := laterA (Below.refl W5.heap.size W5) (.cells #[.int .i64 n2, .slice A5 acc.length cap5, .bool false, .int .i64 0, .int .i64 0, .int .i64 0] 25)
          have hB6 := (Blk.new W5 25 #[.int .i64 n2, .slice A5 acc.length cap5, .bool false, .int .i64 0, .int .i64 0, .int .i64 0]).drew
          have hX6 := hX4.out.later hl6
          have hbx6 := hX6.bx.drew
          have hlow6 := hX6.low
          have hbP6 := (hbP.later hl6).drew
          have hrd6 := hrd.later (laterD_ hl6)
          have hrg6 := hrg.later hl6
          clear hBd hX hR1 hR2 hR3 hd hg1 hg3 hsl1 hn ht0 hq0 hX6 hl6 hbP hrg hrd hNA 
          replace hYe := Lib.hid hYe
          replace hB6 := Lib.hid hB6
          replace hbP6 := Lib.hid hbP6
          replace hrg6 := Lib.hid hrg6
          replace hfr := Lib.hid hfr
          replace hrd6 := Lib.hid hrd6
          replace hlow6 := Lib.hid hlow6
          replace hbx6 := Lib.hid hbx6
          rw [rounds_succ]
          go_wp2_with fail
          go_wp2_with fail
          obtain ⟨W6, hW6⟩ : ∃ W, W5.alloc (.cells #[.int .i64 n2, .slice A5 acc.length cap5, .bool false, .int .i64 0, .int .i64 0, .int .i64 0] 25) = W := ⟨_, rfl⟩
          rw [hW6] at hB6 hbx6 hlow6 hbP6 hrd6 hrg6 ⊢
          clear hW6 x0 x1 x2 x3 x4 x5 x6 x7 m0 m1 m2 hM6
          generalize W5.heap.size = X at *
          have hXB : X ≠ w.heap.size := by omega
          have hPB : P ≠ w.heap.size := hPB0
          have hLd := rleft_any p q s5 W6.drew hrd6.out
          have x0 := hbP6.out.cell 0
          have b0 := hB6.out.cell 0
          have y0 := hbx6.out.cell 0
          have z0 := hbx6.out.frozen 0
          have b1 := hB6.out.cell 1
          have y1 := hbx6.out.cell 1
          have z1 := hbx6.out.frozen 1
          have b2 := hB6.out.cell 2
          have y2 := hbx6.out.cell 2
          have z2 := hbx6.out.frozen 2
          have b3 := hB6.out.cell 3
          have y3 := hbx6.out.cell 3
          have z3 := hbx6.out.frozen 3
          have b4 := hB6.out.cell 4
          have y4 := hbx6.out.cell 4
          have z4 := hbx6.out.frozen 4
          have b5 := hB6.out.cell 5
          have y5 := hbx6.out.cell 5
          have z5 := hbx6.out.frozen 5
          simp at x0 b0 b1 b2 b3 b4 b5 y0 y1 y2 y3 y4 y5
          have hbx7 : Blk W6 w.heap.size 25 #[.int .i64 0, .slice none 0 0, .bool false, .int .i64 0, .int .i64 0, .int .i64 0] := hbx6.out
          have u0 := hbx7.frozen 0
          have u1 := hbx7.frozen 1
          have u2 := hbx7.frozen 2
          have u3 := hbx7.frozen 3
          have u4 := hbx7.frozen 4
          have u5 := hbx7.frozen 5
          replace hbx7 := Lib.hid hbx7
          have hSn : (W6.cell? ⟨P, 0, none⟩ = some (.pointer (some ⟨p, 0, none⟩))) ∧ W6.cell? ⟨X, 0, none⟩ = some (.int .i64 n2) ∧ W6.cell? ⟨X, 1, none⟩ = some (.slice A5 acc.length cap5) ∧ W6.cell? ⟨X, 2, none⟩ = some (.bool false) ∧ W6.cell? ⟨X, 3, none⟩ = some (.int .i64 0) ∧ W6.cell? ⟨X, 4, none⟩ = some (.int .i64 0) ∧ W6.cell? ⟨X, 5, none⟩ = some (.int .i64 0) := ⟨x0, b0, b1, b2, b3, b4, b5⟩
          have hSd : (W6.drew.cell? ⟨P, 0, none⟩ = some (.pointer (some ⟨p, 0, none⟩))) ∧ W6.drew.cell? ⟨X, 0, none⟩ = some (.int .i64 n2) ∧ W6.drew.cell? ⟨X, 1, none⟩ = some (.slice A5 acc.length cap5) ∧ W6.drew.cell? ⟨X, 2, none⟩ = some (.bool false) ∧ W6.drew.cell? ⟨X, 3, none⟩ = some (.int .i64 0) ∧ W6.drew.cell? ⟨X, 4, none⟩ = some (.int .i64 0) ∧ W6.drew.cell? ⟨X, 5, none⟩ = some (.int .i64 0) := hSn
          have hl0 : s5.l.length ≤ 10000 := by obtain ⟨_, _, _, _, g1, _, g2⟩ := hrd6.out; have := g1.1; omega
          have hwl : IntKind.i64.wrap ((n : Int) - (s5.l.length : Int)) = (n : Int) - (s5.l.length : Int) := IntWalk.i64_in _ (by omega)
          replace hl0 := Lib.hid hl0
          clear hs
          go_region_held3 (fun w' => (w'.cell? ⟨P, 0, none⟩ = some (.pointer (some ⟨p, 0, none⟩))) ∧ w'.cell? ⟨X, 0, none⟩ = some (.int .i64 n2) ∧ w'.cell? ⟨X, 1, none⟩ = some (.slice A5 acc.length cap5) ∧ w'.cell? ⟨X, 2, none⟩ = some (.bool false) ∧ w'.cell? ⟨X, 3, none⟩ = some (.int .i64 0) ∧ w'.cell? ⟨X, 4, none⟩ = some (.int .i64 0) ∧ w'.cell? ⟨X, 5, none⟩ = some (.int .i64 0)) (first | with_reducible exact hSd | with_reducible exact hSn | (simp only [cell_drew, cell_ne _ _ _ hXB, cell_ne _ _ _ hPB]; first | with_reducible exact hSd | with_reducible exact hSn | fail) | fail) (first | (go_at_call 53; (with_reducible refine hLd.mono ?_); rintro e w9 ⟨rfl, rfl⟩) | fail)
          go_wp2_with fail
          refine bodyPost_ret (results_c3 rfl _ _ rfl ((six_blk hbx7.out).drew) rfl) rfl ?_
          rw [hYe.out]
          exact ⟨A5, _, cap5, rfl, (hrg6.out.only six_only (fun a ha => by have := hfr.out a ha; omega)).later (laterD_ (Below.refl _ _)), fun a ha => by have := hfr.out a ha; omega, laterD_ (six_low hlow6.out)⟩
        · have hYe : Y = (Frm.zero, 0, E5) := by rw [hX.out, hBd.1, if_neg h5]
          have hbx5 := hX4.out.bx.drew
          have f0 := hbx5.setSame 0 (.int .i64 0) rfl
          have f1 := hbx5.setSame 1 (.slice none 0 0) rfl
          have f2 := hbx5.setSame 2 (.bool false) rfl
          have f3 := hbx5.setSame 3 (.int .i64 0) rfl
          have f4 := hbx5.setSame 4 (.int .i64 0) rfl
          have f5 := hbx5.setSame 5 (.int .i64 0) rfl
          have hlow5 := laterD_ hX4.out.low
          have y0 := hbx5.cell 0
          have z0 := hbx5.frozen 0
          have y1 := hbx5.cell 1
          have z1 := hbx5.frozen 1
          have y2 := hbx5.cell 2
          have z2 := hbx5.frozen 2
          have y3 := hbx5.cell 3
          have z3 := hbx5.frozen 3
          have y4 := hbx5.cell 4
          have z4 := hbx5.frozen 4
          have y5 := hbx5.cell 5
          have z5 := hbx5.frozen 5
          simp at y0 y1 y2 y3 y4 y5
          clear hBd hX hNA hR1 hR2 hR3 hd hg1 hg3 hsl1 hn ht0 hq0 hs
          replace hYe := Lib.hid hYe
          replace hlow5 := Lib.hid hlow5
          replace hbx5 := Lib.hid hbx5
          rw [rounds_succ]
          go_wp2_with fail
          go_wp2_with fail
          go_region_held3 (fun w' => w'.cell? ⟨P, 7, none⟩ = some (.int .i64 E5)) (first | exact c5 | (simp only [f0, f1, f2, f3, f4, f5]; exact c5) | fail) (fail)
          go_wp2_with fail
          refine bodyPost_ret (results_c3 rfl _ _ rfl hbx5.out rfl) rfl ?_
          rw [hYe.out]
          exact ⟨none, 0, 0, rfl, Rg.zero, no_addr, hlow5.out⟩
  
      · have hRg := hX1.out.ranges hNA.out n1 n3 hg1.1 hg1.2 hg3.1 hg3.2 (fun h => absurd h hE)
        have hE4 : (if E3 = 0 ∧ 256 ≤ n3 then (5 : Int) else E3) = E3 := by rw [if_neg hc]
        replace hE4 := Lib.hid hE4
        clear hX1 hc
        go_wp2_with fail
        with_reducible refine hRg.mono ?_
        clear hRg c7 f7
        rintro e w5 ⟨⟨r, rfl⟩, s5, E5, acc, hd, hal, hX3⟩
        have hMl := laterA (Below.refl w5.heap.size w5) (.cells #[.int .i64 0, .int .i64 0, .int .i64 0] 23)
        have hX4 := hX3.later hMl
        have hM := Blk.new w5 23 #[.int .i64 0, .int .i64 0, .int .i64 0]
        have hBM := hX3.da.sz
        have hP := hNA.out.ap.P
        have hp := hNA.out.ap.p
        clear hX3 hMl
        replace hal := Lib.hid hal
        replace hX4 := Lib.hid hX4
        replace hM := Lib.hid hM
        replace hd := Lib.hid hd
        go_wp2_with fail
        obtain ⟨W5, hW5⟩ : ∃ W, w5.alloc (.cells #[.int .i64 0, .int .i64 0, .int .i64 0] 23) = W := ⟨_, rfl⟩
        rw [hW5] at hX4 hM ⊢
        clear hW5
        generalize w5.heap.size = M at *
        clear w5
        have t5 := hX4.out.t0
        have c5 := hX4.out.err.1
        refine wp_loop_rounds 4 ?_
        have hBd := body_doc0 hR1.out hR2.out hR3.out (by rw [if_neg (fun h => hE h.1)]) hd.out
        have h5 := hBd.2 hE
        have hYe : Y = (Frm.zero, 0, E5) := by rw [hX.out, hBd.1, if_neg h5]
        have hbx5 := hX4.out.bx.drew
        have f0 := hbx5.setSame 0 (.int .i64 0) rfl
        have f1 := hbx5.setSame 1 (.slice none 0 0) rfl
        have f2 := hbx5.setSame 2 (.bool false) rfl
        have f3 := hbx5.setSame 3 (.int .i64 0) rfl
        have f4 := hbx5.setSame 4 (.int .i64 0) rfl
        have f5 := hbx5.setSame 5 (.int .i64 0) rfl
        have hlow5 := laterD_ hX4.out.low
        have y0 := hbx5.cell 0
        have z0 := hbx5.frozen 0
        have y1 := hbx5.cell 1
        have z1 := hbx5.frozen 1
        have y2 := hbx5.cell 2
        have z2 := hbx5.frozen 2
        have y3 := hbx5.cell 3
        have z3 := hbx5.frozen 3
        have y4 := hbx5.cell 4
        have z4 := hbx5.frozen 4
        have y5 := hbx5.cell 5
        have z5 := hbx5.frozen 5
        simp at y0 y1 y2 y3 y4 y5
        clear hBd hX hNA hR1 hR2 hR3 hd hg1 hg3 hsl1 hn ht0 hq0 hs
        replace hYe := Lib.hid hYe
        replace hlow5 := Lib.hid hlow5
        replace hbx5 := Lib.hid hbx5
        rw [rounds_succ]
        go_wp2_with fail
        go_wp2_with fail
        go_region_held3 (fun w' => w'.cell? ⟨P, 7, none⟩ = some (.int .i64 E5)) (first | exact c5 | (simp only [f0, f1, f2, f3, f4, f5]; exact c5) | fail) (fail)
        go_wp2_with fail
        refine bodyPost_ret (results_c3 rfl _ _ rfl hbx5.out rfl) rfl ?_
        rw [hYe.out]
        exact ⟨none, 0, 0, rfl, Rg.zero, no_addr, hlow5.out⟩
  · go_wp2_with fail
    go_region_held3 (fun w' => w'.cell? ⟨q0, off, none⟩ = some (.int .u8 3)) (first | exact t0 | exact t1 | exact cell_al t1 _ | fail) (first | (go_at_call 50; (with_reducible refine hN.out.mono ?_); rintro e w1 ⟨p, q, rfl, hrd, hat, hb1⟩; have t1 := (cell_only (Only.of_below (F := fun _ => False) hb1) id t0); replace hrd := Lib.hid hrd; replace hat := Lib.hid hat; replace hb1 := Lib.hid hb1) | fail)
    rename_i hHeld
    clear hHeld
    have hP1 := Blk.new w1 76 #[.pointer (some ⟨p, 0, none⟩), .int .i64 0, .slice none 0 0, .bool true, .int .i64 0, .int .i64 0, .int .i64 0, .int .i64 0]
    have hl1 := laterA (Below.refl w1.heap.size w1) (.cells #[.pointer (some ⟨p, 0, none⟩), .int .i64 0, .slice none 0 0, .bool true, .int .i64 0, .int .i64 0, .int .i64 0, .int .i64 0] 76)
    have hq1 := hat.out.q1
    have hp1 := hat.out.p1
    have hpw : w.heap.size < p := by have hh := hat.out.p0; simp [World.drew] at hh; omega
    have hne := hat.out.ne
    have hb0s : w.heap.size < w1.heap.size := by omega
    have hlow := old_later2 (old_later2 (laterD_ hb0.out) hb1.out (laterD_ hb0.out).size) hl1 (old_later2 (laterD_ hb0.out) hb1.out (laterD_ hb0.out).size).size
    have hbxR := ((hbx.out.drew).later hb1.out).later hl1
    have t2 := cell_al t1 (.cells #[.pointer (some ⟨p, 0, none⟩), .int .i64 0, .slice none 0 0, .bool true, .int .i64 0, .int .i64 0, .int .i64 0, .int .i64 0] 76)
    have hrd1 := hrd.out.later hl1
    have hszW : w1.heap.size + 1 ≤ (w1.alloc (.cells #[.pointer (some ⟨p, 0, none⟩), .int .i64 0, .slice none 0 0, .bool true, .int .i64 0, .int .i64 0, .int .i64 0, .int .i64 0] 76)).heap.size := by simp
    generalize w1.alloc (.cells #[.pointer (some ⟨p, 0, none⟩), .int .i64 0, .slice none 0 0, .bool true, .int .i64 0, .int .i64 0, .int .i64 0, .int .i64 0] 76) = W1 at hP1 hl1 hlow hbxR t2 hrd1 hszW ⊢
    clear hl1 t0 t1 hbx hb0 hrd hb1 hN hat
    generalize w1.heap.size = P at *
    clear w1
    have hNA : NA w.heap.size ⟨q0, off, none⟩ (P + 1) P p q := ⟨⟨⟨hne, by omega, by omega⟩, by omega, by omega, by omega⟩, by omega, hpw, by omega, hq0⟩
    have hX1 : NX w W1 ⟨q0, off, none⟩ 3 (P + 1) P p q ⟨l, 0⟩ 0 true [] := ⟨⟨⟨_, ⟨hP1, hrd1⟩, OwnS.nil _⟩, hszW⟩, hbxR, t2, hlow⟩
    clear hP1 hrd1 hszW hbxR t2 hlow hq1 hp1 hpw hne hb0s
    obtain ⟨n1, s1, E1, hR1⟩ : ∃ a b c, dn ⟨l, 0⟩ 0 = (a, b, c) := ⟨_, _, _, rfl⟩
    obtain ⟨n2, s2, E2, hR2⟩ : ∃ a b c, dn s1 E1 = (a, b, c) := ⟨_, _, _, rfl⟩
    obtain ⟨n3, s3, E3, hR3⟩ : ∃ a b c, dn s2 E2 = (a, b, c) := ⟨_, _, _, rfl⟩
    have hg1 := hX1.range
    rw [hR1] at hg1
    have hN1 := hX1.num hNA
    rw [hR1] at hN1
    simp only at hN1 hg1
    replace hX1 := Lib.hid hX1
    replace hNA := Lib.hid hNA
    replace hR1 := Lib.hid hR1
    replace hR2 := Lib.hid hR2
    replace hR3 := Lib.hid hR3
    go_wp2_with fail
    with_reducible refine hN1.mono ?_
    clear hN1 hX1
    rintro e w2 ⟨rfl, hX1, _⟩
    have hN1 := hX1.num hNA.out
    rw [hR2.out] at hN1
    simp only at hN1
    replace hX1 := Lib.hid hX1
    go_wp2_with fail
    with_reducible refine hN1.mono ?_
    clear hN1 hX1
    rintro e w3 ⟨rfl, hX1, _⟩
    have hN1 := hX1.num hNA.out
    have hg3 := hX1.range
    rw [hR3.out] at hN1 hg3
    simp only at hN1 hg3
    replace hX1 := Lib.hid hX1
    go_wp2_with fail
    with_reducible refine hN1.mono ?_
    clear hN1 hX1
    rintro e w4 ⟨rfl, hX1, _⟩
    have c7 := hX1.err.1
    have f7 := hX1.err.2
    replace hX1 := Lib.hid hX1
  
    by_cases hc : E3 = 0 ∧ 256 ≤ n3
    · obtain ⟨rfl, hge⟩ := hc
      have hge' : n3 ≥ 256 := hge
      have hX2 := hX1.out.fail hNA.out 5
      have hRg := hX2.ranges hNA.out n1 n3 hg1.1 hg1.2 hg3.1 hg3.2 (fun h => absurd h (by decide))
      have hE4 : (if (0 : Int) = 0 ∧ 256 ≤ n3 then (5 : Int) else 0) = 5 := by rw [if_pos ⟨rfl, hge⟩]
      replace hE4 := Lib.hid hE4
      clear hX1 hX2 hge
      go_wp2_with fail
      with_reducible refine hRg.mono ?_
      clear hRg c7 f7
      rintro e w5 ⟨⟨r, rfl⟩, s5, E5, acc, hd, hal, hX3⟩
      have hMl := laterA (Below.refl w5.heap.size w5) (.cells #[.int .i64 0, .int .i64 0, .int .i64 0] 23)
      have hX4 := hX3.later hMl
      have hM := Blk.new w5 23 #[.int .i64 0, .int .i64 0, .int .i64 0]
      have hBM := hX3.da.sz
      have hP := hNA.out.ap.P
      have hp := hNA.out.ap.p
      clear hX3 hMl
      replace hal := Lib.hid hal
      replace hX4 := Lib.hid hX4
      replace hM := Lib.hid hM
      replace hd := Lib.hid hd
      go_wp2_with fail
      obtain ⟨W5, hW5⟩ : ∃ W, w5.alloc (.cells #[.int .i64 0, .int .i64 0, .int .i64 0] 23) = W := ⟨_, rfl⟩
      rw [hW5] at hX4 hM ⊢
      clear hW5
      generalize w5.heap.size = M at *
      clear w5
      obtain ⟨x, s6, E6, hR6⟩ : ∃ a b c, dn s5 E5 = (a, b, c) := ⟨_, _, _, rfl⟩
      obtain ⟨y, s7, E7, hR7⟩ : ∃ a b c, dn s6 E6 = (a, b, c) := ⟨_, _, _, rfl⟩
      obtain ⟨z, s8, E8, hR8⟩ : ∃ a b c, dn s7 E7 = (a, b, c) := ⟨_, _, _, rfl⟩
      have hBd := body_doc1 hR1.out hR2.out hR3.out (by rw [if_pos ⟨rfl, hge'⟩]) hd.out hR6 hR7 hR8
      replace hR6 := Lib.hid hR6
      replace hR7 := Lib.hid hR7
      replace hR8 := Lib.hid hR8
      have hMp : M ≠ p := by omega
      have hMP : M ≠ P := by omega
      refine wp_loop_rounds 4 ?_
  
      rw [rounds_succ]
      have t5 := hX4.out.t0
      have hNu := hX4.out.num hNA.out
      rw [hR6.out] at hNu
      simp only at hNu
      go_wp2_with fail
      with_reducible refine hNu.mono ?_
      clear hNu t5
      rintro e w6 ⟨rfl, hXn, hon⟩
      have hMn := hM.out.only hon (by omega)
      have cc := hMn.cell 0
      have ff := hMn.frozen 0
      simp at cc
      have hX5 := hXn.mark hNA.out hMn (by decide) hBM 0 (.int .i64 x)
      have hM1 : Blk (w6.setCell ⟨M, 0, none⟩ (.int .i64 x)) M 23 #[.int .i64 x, .int .i64 0, .int .i64 0] := hMn.set_ 0 (.int .i64 x)
      replace hX5 := Lib.hid hX5
      replace hM1 := Lib.hid hM1
      clear hXn hMn hon hX4 hM
      go_wp2_with fail
      obtain ⟨W6, hW⟩ : ∃ W, w6.setCell ⟨M, 0, none⟩ (.int .i64 x) = W := ⟨_, rfl⟩
      rw [hW] at hX5 hM1 ⊢
      clear hW cc ff
  
      rw [rounds_succ]
      have t5 := hX5.out.t0
      have hNu := hX5.out.num hNA.out
      rw [hR7.out] at hNu
      simp only at hNu
      go_wp2_with fail
      with_reducible refine hNu.mono ?_
      clear hNu t5
      rintro e w7 ⟨rfl, hXn, hon⟩
      have hMn := hM1.out.only hon (by omega)
      have cc := hMn.cell 1
      have ff := hMn.frozen 1
      simp at cc
      have hX6 := hXn.mark hNA.out hMn (by decide) hBM 1 (.int .i64 y)
      have hM2 : Blk (w7.setCell ⟨M, 1, none⟩ (.int .i64 y)) M 23 #[.int .i64 x, .int .i64 y, .int .i64 0] := hMn.set_ 1 (.int .i64 y)
      replace hX6 := Lib.hid hX6
      replace hM2 := Lib.hid hM2
      clear hXn hMn hon hX5 hM1
      go_wp2_with fail
      obtain ⟨W7, hW⟩ : ∃ W, w7.setCell ⟨M, 1, none⟩ (.int .i64 y) = W := ⟨_, rfl⟩
      rw [hW] at hX6 hM2 ⊢
      clear hW cc ff
  
      rw [rounds_succ]
      have t5 := hX6.out.t0
      have hNu := hX6.out.num hNA.out
      rw [hR8.out] at hNu
      simp only at hNu
      go_wp2_with fail
      with_reducible refine hNu.mono ?_
      clear hNu t5
      rintro e w8 ⟨rfl, hXn, hon⟩
      have hMn := hM2.out.only hon (by omega)
      have cc := hMn.cell 2
      have ff := hMn.frozen 2
      simp at cc
      have hX7 := hXn.mark hNA.out hMn (by decide) hBM 2 (.int .i64 z)
      have hM3 : Blk (w8.setCell ⟨M, 2, none⟩ (.int .i64 z)) M 23 #[.int .i64 x, .int .i64 y, .int .i64 z] := hMn.set_ 2 (.int .i64 z)
      replace hX7 := Lib.hid hX7
      replace hM3 := Lib.hid hM3
      clear hXn hMn hon hX6 hM2
      go_wp2_with fail
      obtain ⟨W8, hW⟩ : ∃ W, w8.setCell ⟨M, 2, none⟩ (.int .i64 z) = W := ⟨_, rfl⟩
      rw [hW] at hX7 hM3 ⊢
      clear hW cc ff
      have t5 := hX7.out.t0
      have c5 := hX7.out.err.1
      have h5 := hBd.2 (by decide)
      have hYe : Y = (Frm.zero, 0, E8) := by rw [hX.out, hBd.1, if_neg h5]
      have hbx5 := hX7.out.bx.drew
      have f0 := hbx5.setSame 0 (.int .i64 0) rfl
      have f1 := hbx5.setSame 1 (.slice none 0 0) rfl
      have f2 := hbx5.setSame 2 (.bool false) rfl
      have f3 := hbx5.setSame 3 (.int .i64 0) rfl
      have f4 := hbx5.setSame 4 (.int .i64 0) rfl
      have f5 := hbx5.setSame 5 (.int .i64 0) rfl
      have hlow5 := laterD_ hX7.out.low
      have y0 := hbx5.cell 0
      have z0 := hbx5.frozen 0
      have y1 := hbx5.cell 1
      have z1 := hbx5.frozen 1
      have y2 := hbx5.cell 2
      have z2 := hbx5.frozen 2
      have y3 := hbx5.cell 3
      have z3 := hbx5.frozen 3
      have y4 := hbx5.cell 4
      have z4 := hbx5.frozen 4
      have y5 := hbx5.cell 5
      have z5 := hbx5.frozen 5
      simp at y0 y1 y2 y3 y4 y5
      clear hBd hX hNA hR1 hR2 hR3 hd hg1 hg3 hsl1 hn ht0 hq0 hs
      replace hYe := Lib.hid hYe
      replace hlow5 := Lib.hid hlow5
      replace hbx5 := Lib.hid hbx5
      rw [rounds_succ]
      go_wp2_with fail
      go_wp2_with fail
      go_region_held3 (fun w' => w'.cell? ⟨P, 7, none⟩ = some (.int .i64 E8)) (first | exact c5 | (simp only [f0, f1, f2, f3, f4, f5]; exact c5) | fail) (fail)
      go_wp2_with fail
      refine bodyPost_ret (results_c3 rfl _ _ rfl hbx5.out rfl) rfl ?_
      rw [hYe.out]
      exact ⟨none, 0, 0, rfl, Rg.zero, no_addr, hlow5.out⟩
  
    · by_cases hE : E3 = 0
      · subst hE
        have hge' : ¬ n3 ≥ 256 := fun h => hc ⟨rfl, h⟩
        have hRg := hX1.out.ranges hNA.out n1 n3 hg1.1 hg1.2 hg3.1 hg3.2 (fun _ => by omega)
        have hE4 : (if (0 : Int) = 0 ∧ 256 ≤ n3 then (5 : Int) else 0) = 0 := by rw [if_neg hc]
        replace hE4 := Lib.hid hE4
        clear hX1 hc
        go_wp2_with fail
        with_reducible refine hRg.mono ?_
        clear hRg c7 f7
        rintro e w5 ⟨⟨r, rfl⟩, s5, E5, acc, hd, hal, hX3⟩
        have hMl := laterA (Below.refl w5.heap.size w5) (.cells #[.int .i64 0, .int .i64 0, .int .i64 0] 23)
        have hX4 := hX3.later hMl
        have hM := Blk.new w5 23 #[.int .i64 0, .int .i64 0, .int .i64 0]
        have hBM := hX3.da.sz
        have hP := hNA.out.ap.P
        have hp := hNA.out.ap.p
        clear hX3 hMl
        replace hal := Lib.hid hal
        replace hX4 := Lib.hid hX4
        replace hM := Lib.hid hM
        replace hd := Lib.hid hd
        go_wp2_with fail
        obtain ⟨W5, hW5⟩ : ∃ W, w5.alloc (.cells #[.int .i64 0, .int .i64 0, .int .i64 0] 23) = W := ⟨_, rfl⟩
        rw [hW5] at hX4 hM ⊢
        clear hW5
        generalize w5.heap.size = M at *
        clear w5
        obtain ⟨x, s6, E6, hR6⟩ : ∃ a b c, dn s5 E5 = (a, b, c) := ⟨_, _, _, rfl⟩
        obtain ⟨y, s7, E7, hR7⟩ : ∃ a b c, dn s6 E6 = (a, b, c) := ⟨_, _, _, rfl⟩
        obtain ⟨z, s8, E8, hR8⟩ : ∃ a b c, dn s7 E7 = (a, b, c) := ⟨_, _, _, rfl⟩
        have hBd := body_doc1 hR1.out hR2.out hR3.out (by rw [if_neg (fun h => by have := h.2; omega)]) hd.out hR6 hR7 hR8
        replace hR6 := Lib.hid hR6
        replace hR7 := Lib.hid hR7
        replace hR8 := Lib.hid hR8
        have hMp : M ≠ p := by omega
        have hMP : M ≠ P := by omega
        refine wp_loop_rounds 4 ?_
  
        rw [rounds_succ]
        have t5 := hX4.out.t0
        have hNu := hX4.out.num hNA.out
        rw [hR6.out] at hNu
        simp only at hNu
        go_wp2_with fail
        with_reducible refine hNu.mono ?_
        clear hNu t5
        rintro e w6 ⟨rfl, hXn, hon⟩
        have hMn := hM.out.only hon (by omega)
        have cc := hMn.cell 0
        have ff := hMn.frozen 0
        simp at cc
        have hX5 := hXn.mark hNA.out hMn (by decide) hBM 0 (.int .i64 x)
        have hM1 : Blk (w6.setCell ⟨M, 0, none⟩ (.int .i64 x)) M 23 #[.int .i64 x, .int .i64 0, .int .i64 0] := hMn.set_ 0 (.int .i64 x)
        replace hX5 := Lib.hid hX5
        replace hM1 := Lib.hid hM1
        clear hXn hMn hon hX4 hM
        go_wp2_with fail
        obtain ⟨W6, hW⟩ : ∃ W, w6.setCell ⟨M, 0, none⟩ (.int .i64 x) = W := ⟨_, rfl⟩
        rw [hW] at hX5 hM1 ⊢
        clear hW cc ff
  
        rw [rounds_succ]
        have t5 := hX5.out.t0
        have hNu := hX5.out.num hNA.out
        rw [hR7.out] at hNu
        simp only at hNu
        go_wp2_with fail
        with_reducible refine hNu.mono ?_
        clear hNu t5
        rintro e w7 ⟨rfl, hXn, hon⟩
        have hMn := hM1.out.only hon (by omega)
        have cc := hMn.cell 1
        have ff := hMn.frozen 1
        simp at cc
        have hX6 := hXn.mark hNA.out hMn (by decide) hBM 1 (.int .i64 y)
        have hM2 : Blk (w7.setCell ⟨M, 1, none⟩ (.int .i64 y)) M 23 #[.int .i64 x, .int .i64 y, .int .i64 0] := hMn.set_ 1 (.int .i64 y)
        replace hX6 := Lib.hid hX6
        replace hM2 := Lib.hid hM2
        clear hXn hMn hon hX5 hM1
        go_wp2_with fail
        obtain ⟨W7, hW⟩ : ∃ W, w7.setCell ⟨M, 1, none⟩ (.int .i64 y) = W := ⟨_, rfl⟩
        rw [hW] at hX6 hM2 ⊢
        clear hW cc ff
  
        rw [rounds_succ]
        have t5 := hX6.out.t0
        have hNu := hX6.out.num hNA.out
        rw [hR8.out] at hNu
        simp only at hNu
        go_wp2_with fail
        with_reducible refine hNu.mono ?_
        clear hNu t5
        rintro e w8 ⟨rfl, hXn, hon⟩
        have hMn := hM2.out.only hon (by omega)
        have cc := hMn.cell 2
        have ff := hMn.frozen 2
        simp at cc
        have hX7 := hXn.mark hNA.out hMn (by decide) hBM 2 (.int .i64 z)
        have hM3 : Blk (w8.setCell ⟨M, 2, none⟩ (.int .i64 z)) M 23 #[.int .i64 x, .int .i64 y, .int .i64 z] := hMn.set_ 2 (.int .i64 z)
        replace hX7 := Lib.hid hX7
        replace hM3 := Lib.hid hM3
        clear hXn hMn hon hX6 hM2
        go_wp2_with fail
        obtain ⟨W8, hW⟩ : ∃ W, w8.setCell ⟨M, 2, none⟩ (.int .i64 z) = W := ⟨_, rfl⟩
        rw [hW] at hX7 hM3 ⊢
        clear hW cc ff
        have t5 := hX7.out.t0
        have c5 := hX7.out.err.1
        by_cases h5 : E8 = 0
        · subst h5
          obtain ⟨A5, cap5, hbP, hrg, hfr, hrd⟩ := hX7.out.box
          have hYe : Y = (⟨n2, acc, true, x, y, z⟩, (n : Int) - s8.l.length, 0) := by rw [hX.out, hBd.1, if_pos rfl]
          have hBlt := hNA.out.B
          have hPB0 : P ≠ w.heap.size := by have := hNA.out.P; omega
          have hXB0 : w.heap.size < W8.heap.size := by have := hM3.out.lt; omega
          have x0 := hbP.cell 0
          have x1 := hbP.cell 1
          have x2 := hbP.cell 2
          have x3 := hbP.cell 3
          have x4 := hbP.cell 4
          have x5 := hbP.cell 5
          have x6 := hbP.cell 6
          have x7 := hbP.cell 7
          simp at x0 x1 x2 x3 x4 x5 x6 x7
          have hM6 := hM3.out.later (laterA (Below.refl _ _) (.cells #[.int .i64 n2, .slice A5 acc.length cap5, .bool true, .int .i64 0, .int .i64 0, .int .i64 0] 25))
          have m0 := hM6.cell 0
          have m1 := hM6.cell 1
          have m2 := hM6.cell 2
          simp only [List.getElem?_toArray, List.getElem?_cons_zero, List.getElem?_cons_succ] at m0 m1 m2
          have hl6 := laterA (Below.refl W8.heap.size W8) (.cells #[.int .i64 n2, .slice A5 acc.length cap5, .bool true, .int .i64 x, .int .i64 y, .int .i64 z] 25)
          have hB6 := (Blk.new W8 25 #[.int .i64 n2, .slice A5 acc.length cap5, .bool true, .int .i64 x, .int .i64 y, .int .i64 z]).drew
          have hX6 := hX7.out.later hl6
          have hbx6 := hX6.bx.drew
          have hlow6 := hX6.low
          have hbP6 := (hbP.later hl6).drew
          have hrd6 := hrd.later (laterD_ hl6)
          have hrg6 := hrg.later hl6
          clear hBd hX hR1 hR2 hR3 hd hg1 hg3 hsl1 hn ht0 hq0 hX6 hl6 hbP hrg hrd hNA hR6 hR7 hR8
          replace hYe := Lib.hid hYe
          replace hB6 := Lib.hid hB6
          replace hbP6 := Lib.hid hbP6
          replace hrg6 := Lib.hid hrg6
          replace hfr := Lib.hid hfr
          replace hrd6 := Lib.hid hrd6
          replace hlow6 := Lib.hid hlow6
          replace hbx6 := Lib.hid hbx6
          rw [rounds_succ]
          go_wp2_with fail
          go_wp2_with fail
          obtain ⟨W6, hW6⟩ : ∃ W, W8.alloc (.cells #[.int .i64 n2, .slice A5 acc.length cap5, .bool true, .int .i64 x, .int .i64 y, .int .i64 z] 25) = W := ⟨_, rfl⟩
          rw [hW6] at hB6 hbx6 hlow6 hbP6 hrd6 hrg6 ⊢
          clear hW6 x0 x1 x2 x3 x4 x5 x6 x7 m0 m1 m2 hM6
          generalize W8.heap.size = X at *
          have hXB : X ≠ w.heap.size := by omega
          have hPB : P ≠ w.heap.size := hPB0
          have hLd := rleft_any p q s8 W6.drew hrd6.out
          have x0 := hbP6.out.cell 0
          have b0 := hB6.out.cell 0
          have y0 := hbx6.out.cell 0
          have z0 := hbx6.out.frozen 0
          have b1 := hB6.out.cell 1
          have y1 := hbx6.out.cell 1
          have z1 := hbx6.out.frozen 1
          have b2 := hB6.out.cell 2
          have y2 := hbx6.out.cell 2
          have z2 := hbx6.out.frozen 2
          have b3 := hB6.out.cell 3
          have y3 := hbx6.out.cell 3
          have z3 := hbx6.out.frozen 3
          have b4 := hB6.out.cell 4
          have y4 := hbx6.out.cell 4
          have z4 := hbx6.out.frozen 4
          have b5 := hB6.out.cell 5
          have y5 := hbx6.out.cell 5
          have z5 := hbx6.out.frozen 5
          simp at x0 b0 b1 b2 b3 b4 b5 y0 y1 y2 y3 y4 y5
          have hbx7 : Blk W6 w.heap.size 25 #[.int .i64 0, .slice none 0 0, .bool false, .int .i64 0, .int .i64 0, .int .i64 0] := hbx6.out
          have u0 := hbx7.frozen 0
          have u1 := hbx7.frozen 1
          have u2 := hbx7.frozen 2
          have u3 := hbx7.frozen 3
          have u4 := hbx7.frozen 4
          have u5 := hbx7.frozen 5
          replace hbx7 := Lib.hid hbx7
          have hSn : (W6.cell? ⟨P, 0, none⟩ = some (.pointer (some ⟨p, 0, none⟩))) ∧ W6.cell? ⟨X, 0, none⟩ = some (.int .i64 n2) ∧ W6.cell? ⟨X, 1, none⟩ = some (.slice A5 acc.length cap5) ∧ W6.cell? ⟨X, 2, none⟩ = some (.bool true) ∧ W6.cell? ⟨X, 3, none⟩ = some (.int .i64 x) ∧ W6.cell? ⟨X, 4, none⟩ = some (.int .i64 y) ∧ W6.cell? ⟨X, 5, none⟩ = some (.int .i64 z) := ⟨x0, b0, b1, b2, b3, b4, b5⟩
          have hSd : (W6.drew.cell? ⟨P, 0, none⟩ = some (.pointer (some ⟨p, 0, none⟩))) ∧ W6.drew.cell? ⟨X, 0, none⟩ = some (.int .i64 n2) ∧ W6.drew.cell? ⟨X, 1, none⟩ = some (.slice A5 acc.length cap5) ∧ W6.drew.cell? ⟨X, 2, none⟩ = some (.bool true) ∧ W6.drew.cell? ⟨X, 3, none⟩ = some (.int .i64 x) ∧ W6.drew.cell? ⟨X, 4, none⟩ = some (.int .i64 y) ∧ W6.drew.cell? ⟨X, 5, none⟩ = some (.int .i64 z) := hSn
          have hl0 : s8.l.length ≤ 10000 := by obtain ⟨_, _, _, _, g1, _, g2⟩ := hrd6.out; have := g1.1; omega
          have hwl : IntKind.i64.wrap ((n : Int) - (s8.l.length : Int)) = (n : Int) - (s8.l.length : Int) := IntWalk.i64_in _ (by omega)
          replace hl0 := Lib.hid hl0
          clear hs
          go_region_held3 (fun w' => (w'.cell? ⟨P, 0, none⟩ = some (.pointer (some ⟨p, 0, none⟩))) ∧ w'.cell? ⟨X, 0, none⟩ = some (.int .i64 n2) ∧ w'.cell? ⟨X, 1, none⟩ = some (.slice A5 acc.length cap5) ∧ w'.cell? ⟨X, 2, none⟩ = some (.bool true) ∧ w'.cell? ⟨X, 3, none⟩ = some (.int .i64 x) ∧ w'.cell? ⟨X, 4, none⟩ = some (.int .i64 y) ∧ w'.cell? ⟨X, 5, none⟩ = some (.int .i64 z)) (first | with_reducible exact hSd | with_reducible exact hSn | (simp only [cell_drew, cell_ne _ _ _ hXB, cell_ne _ _ _ hPB]; first | with_reducible exact hSd | with_reducible exact hSn | fail) | fail) (first | (go_at_call 53; (with_reducible refine hLd.mono ?_); rintro e w9 ⟨rfl, rfl⟩) | fail)
          go_wp2_with fail
          refine bodyPost_ret (results_c3 rfl _ _ rfl ((six_blk hbx7.out).drew) rfl) rfl ?_
          rw [hYe.out]
          exact ⟨A5, _, cap5, rfl, (hrg6.out.only six_only (fun a ha => by have := hfr.out a ha; omega)).later (laterD_ (Below.refl _ _)), fun a ha => by have := hfr.out a ha; omega, laterD_ (six_low hlow6.out)⟩
        · have hYe : Y = (Frm.zero, 0, E8) := by rw [hX.out, hBd.1, if_neg h5]
          have hbx5 := hX7.out.bx.drew
          have f0 := hbx5.setSame 0 (.int .i64 0) rfl
          have f1 := hbx5.setSame 1 (.slice none 0 0) rfl
          have f2 := hbx5.setSame 2 (.bool false) rfl
          have f3 := hbx5.setSame 3 (.int .i64 0) rfl
          have f4 := hbx5.setSame 4 (.int .i64 0) rfl
          have f5 := hbx5.setSame 5 (.int .i64 0) rfl
          have hlow5 := laterD_ hX7.out.low
          have y0 := hbx5.cell 0
          have z0 := hbx5.frozen 0
          have y1 := hbx5.cell 1
          have z1 := hbx5.frozen 1
          have y2 := hbx5.cell 2
          have z2 := hbx5.frozen 2
          have y3 := hbx5.cell 3
          have z3 := hbx5.frozen 3
          have y4 := hbx5.cell 4
          have z4 := hbx5.frozen 4
          have y5 := hbx5.cell 5
          have z5 := hbx5.frozen 5
          simp at y0 y1 y2 y3 y4 y5
          clear hBd hX hNA hR1 hR2 hR3 hd hg1 hg3 hsl1 hn ht0 hq0 hs
          replace hYe := Lib.hid hYe
          replace hlow5 := Lib.hid hlow5
          replace hbx5 := Lib.hid hbx5
          rw [rounds_succ]
          go_wp2_with fail
          go_wp2_with fail
          go_region_held3 (fun w' => w'.cell? ⟨P, 7, none⟩ = some (.int .i64 E8)) (first | exact c5 | (simp only [f0, f1, f2, f3, f4, f5]; exact c5) | fail) (fail)
          go_wp2_with fail
          refine bodyPost_ret (results_c3 rfl _ _ rfl hbx5.out rfl) rfl ?_
          rw [hYe.out]
          exact ⟨none, 0, 0, rfl, Rg.zero, no_addr, hlow5.out⟩
  
      · have hRg := hX1.out.ranges hNA.out n1 n3 hg1.1 hg1.2 hg3.1 hg3.2 (fun h => absurd h hE)
        have hE4 : (if E3 = 0 ∧ 256 ≤ n3 then (5 : Int) else E3) = E3 := by rw [if_neg hc]
        replace hE4 := Lib.hid hE4
        clear hX1 hc
        go_wp2_with fail
        with_reducible refine hRg.mono ?_
        clear hRg c7 f7
        rintro e w5 ⟨⟨r, rfl⟩, s5, E5, acc, hd, hal, hX3⟩
        have hMl := laterA (Below.refl w5.heap.size w5) (.cells #[.int .i64 0, .int .i64 0, .int .i64 0] 23)
        have hX4 := hX3.later hMl
        have hM := Blk.new w5 23 #[.int .i64 0, .int .i64 0, .int .i64 0]
        have hBM := hX3.da.sz
        have hP := hNA.out.ap.P
        have hp := hNA.out.ap.p
        clear hX3 hMl
        replace hal := Lib.hid hal
        replace hX4 := Lib.hid hX4
        replace hM := Lib.hid hM
        replace hd := Lib.hid hd
        go_wp2_with fail
        obtain ⟨W5, hW5⟩ : ∃ W, w5.alloc (.cells #[.int .i64 0, .int .i64 0, .int .i64 0] 23) = W := ⟨_, rfl⟩
        rw [hW5] at hX4 hM ⊢
        clear hW5
        generalize w5.heap.size = M at *
        clear w5
        obtain ⟨x, s6, E6, hR6⟩ : ∃ a b c, dn s5 E5 = (a, b, c) := ⟨_, _, _, rfl⟩
        obtain ⟨y, s7, E7, hR7⟩ : ∃ a b c, dn s6 E6 = (a, b, c) := ⟨_, _, _, rfl⟩
        obtain ⟨z, s8, E8, hR8⟩ : ∃ a b c, dn s7 E7 = (a, b, c) := ⟨_, _, _, rfl⟩
        have hBd := body_doc1 hR1.out hR2.out hR3.out (by rw [if_neg (fun h => hE h.1)]) hd.out hR6 hR7 hR8
        replace hR6 := Lib.hid hR6
        replace hR7 := Lib.hid hR7
        replace hR8 := Lib.hid hR8
        have hMp : M ≠ p := by omega
        have hMP : M ≠ P := by omega
        refine wp_loop_rounds 4 ?_
  
        rw [rounds_succ]
        have t5 := hX4.out.t0
        have hNu := hX4.out.num hNA.out
        rw [hR6.out] at hNu
        simp only at hNu
        go_wp2_with fail
        with_reducible refine hNu.mono ?_
        clear hNu t5
        rintro e w6 ⟨rfl, hXn, hon⟩
        have hMn := hM.out.only hon (by omega)
        have cc := hMn.cell 0
        have ff := hMn.frozen 0
        simp at cc
        have hX5 := hXn.mark hNA.out hMn (by decide) hBM 0 (.int .i64 x)
        have hM1 : Blk (w6.setCell ⟨M, 0, none⟩ (.int .i64 x)) M 23 #[.int .i64 x, .int .i64 0, .int .i64 0] := hMn.set_ 0 (.int .i64 x)
        replace hX5 := Lib.hid hX5
        replace hM1 := Lib.hid hM1
        clear hXn hMn hon hX4 hM
        go_wp2_with fail
        obtain ⟨W6, hW⟩ : ∃ W, w6.setCell ⟨M, 0, none⟩ (.int .i64 x) = W := ⟨_, rfl⟩
        rw [hW] at hX5 hM1 ⊢
        clear hW cc ff
  
        rw [rounds_succ]
        have t5 := hX5.out.t0
        have hNu := hX5.out.num hNA.out
        rw [hR7.out] at hNu
        simp only at hNu
        go_wp2_with fail
        with_reducible refine hNu.mono ?_
        clear hNu t5
        rintro e w7 ⟨rfl, hXn, hon⟩
        have hMn := hM1.out.only hon (by omega)
        have cc := hMn.cell 1
        have ff := hMn.frozen 1
        simp at cc
        have hX6 := hXn.mark hNA.out hMn (by decide) hBM 1 (.int .i64 y)
        have hM2 : Blk (w7.setCell ⟨M, 1, none⟩ (.int .i64 y)) M 23 #[.int .i64 x, .int .i64 y, .int .i64 0] := hMn.set_ 1 (.int .i64 y)
        replace hX6 := Lib.hid hX6
        replace hM2 := Lib.hid hM2
        clear hXn hMn hon hX5 hM1
        go_wp2_with fail
        obtain ⟨W7, hW⟩ : ∃ W, w7.setCell ⟨M, 1, none⟩ (.int .i64 y) = W := ⟨_, rfl⟩
        rw [hW] at hX6 hM2 ⊢
        clear hW cc ff
  
        rw [rounds_succ]
        have t5 := hX6.out.t0
        have hNu := hX6.out.num hNA.out
        rw [hR8.out] at hNu
        simp only at hNu
        go_wp2_with fail
        with_reducible refine hNu.mono ?_
        clear hNu t5
        rintro e w8 ⟨rfl, hXn, hon⟩
        have hMn := hM2.out.only hon (by omega)
        have cc := hMn.cell 2
        have ff := hMn.frozen 2
        simp at cc
        have hX7 := hXn.mark hNA.out hMn (by decide) hBM 2 (.int .i64 z)
        have hM3 : Blk (w8.setCell ⟨M, 2, none⟩ (.int .i64 z)) M 23 #[.int .i64 x, .int .i64 y, .int .i64 z] := hMn.set_ 2 (.int .i64 z)
        replace hX7 := Lib.hid hX7
        replace hM3 := Lib.hid hM3
        clear hXn hMn hon hX6 hM2
        go_wp2_with fail
        obtain ⟨W8, hW⟩ : ∃ W, w8.setCell ⟨M, 2, none⟩ (.int .i64 z) = W := ⟨_, rfl⟩
        rw [hW] at hX7 hM3 ⊢
        clear hW cc ff
        have t5 := hX7.out.t0
        have c5 := hX7.out.err.1
        have h5 := hBd.2 hE
        have hYe : Y = (Frm.zero, 0, E8) := by rw [hX.out, hBd.1, if_neg h5]
        have hbx5 := hX7.out.bx.drew
        have f0 := hbx5.setSame 0 (.int .i64 0) rfl
        have f1 := hbx5.setSame 1 (.slice none 0 0) rfl
        have f2 := hbx5.setSame 2 (.bool false) rfl
        have f3 := hbx5.setSame 3 (.int .i64 0) rfl
        have f4 := hbx5.setSame 4 (.int .i64 0) rfl
        have f5 := hbx5.setSame 5 (.int .i64 0) rfl
        have hlow5 := laterD_ hX7.out.low
        have y0 := hbx5.cell 0
        have z0 := hbx5.frozen 0
        have y1 := hbx5.cell 1
        have z1 := hbx5.frozen 1
        have y2 := hbx5.cell 2
        have z2 := hbx5.frozen 2
        have y3 := hbx5.cell 3
        have z3 := hbx5.frozen 3
        have y4 := hbx5.cell 4
        have z4 := hbx5.frozen 4
        have y5 := hbx5.cell 5
        have z5 := hbx5.frozen 5
        simp at y0 y1 y2 y3 y4 y5
        clear hBd hX hNA hR1 hR2 hR3 hd hg1 hg3 hsl1 hn ht0 hq0 hs
        replace hYe := Lib.hid hYe
        replace hlow5 := Lib.hid hlow5
        replace hbx5 := Lib.hid hbx5
        rw [rounds_succ]
        go_wp2_with fail
        go_wp2_with fail
        go_region_held3 (fun w' => w'.cell? ⟨P, 7, none⟩ = some (.int .i64 E8)) (first | exact c5 | (simp only [f0, f1, f2, f3, f4, f5]; exact c5) | fail) (fail)
        go_wp2_with fail
        refine bodyPost_ret (results_c3 rfl _ _ rfl hbx5.out rfl) rfl ?_
        rw [hYe.out]
        exact ⟨none, 0, 0, rfl, Rg.zero, no_addr, hlow5.out⟩
theorem dnext_any (A : Option Addr) (n c q0 : Nat) (l : List Int) (w : World) (h : Sl w q0 A n c l) (hs : n ≤ 10000) (hb : Oct.Bys l) :
    Calls Tryd.prog 27 #[.slice A n c] w (AckN w (Frm.nxt l)) := by
  cases l with
  | nil =>
    have hn : n = 0 := by have := h.1; simpa using this.symm
    subst hn
    exact dnext_nil A c w
  | cons t l =>
    by_cases ht : t = 2 ∨ t = 3
    · exact dnext_some A n c q0 t l w h hs hb ht
    · exact dnext_bad t ht A n c q0 l w h
theorem nxt_len {b : List Int} (hb : Oct.Bys b) : (Frm.nxt b).1.rs.length ≤ 256 := by
  by_cases h : (Frm.nxt b).2.2 = 0
  · obtain ⟨⟨p, t, hp, ht⟩, _⟩ := Frm.chk_parts (Frm.nxt_good hb h).1
    rw [hp]
    simp
    omega
  · rw [(nxt_bad2 b h).1]
    simp [Frm.zero]
theorem parse_len {b : List Int} (hb : Oct.Bys b) : (Frm.parse b).1.rs.length ≤ 256 := by
  have := nxt_len hb
  unfold Frm.parse
  split
  · split
    · simp [Frm.zero]
    · exact this
  · exact this
set_option maxHeartbeats 4000000 in
set_option maxRecDepth 100000 in
theorem freads_any (A : Option Addr) (n c : Nat) (l : List Int) (w : World) (hL : Lim w) (hr : Rb w A n c l) (hb : Oct.Bys l) :
    Calls Tryd.prog 5 #[.slice A n c] w fun e w' => e = .returned (.bool true) ∧ Below w.heap.size w w' := by
  have h0 := hL.lt
  have h0' : 0 < w.heap.size := by omega
  obtain ⟨K, hK⟩ : ∃ K, min n 2000 = K := ⟨_, rfl⟩
  obtain ⟨A2, hsl, hr2⟩ := rb_to hr (K := K) (by omega)
  have hmin : min (n : Int) 2000 = (K : Int) := by omega
  have hb2 : Oct.Bys (l.take K) := fun x hx => hb x (List.mem_of_mem_take hx)
  have hlen : (l.take K).length = K := hr2.1
  generalize l.take K = lt at *
  have hK2 : K ≤ 2000 := by omega
  have hCp := copyb_any A2 K c lt w hr2 (by omega)
  have hln := nxt_len hb2
  have hlp := parse_len hb2
  obtain ⟨a, k, er, hx⟩ : ∃ a k er, Frm.nxt lt = (a, k, er) := ⟨_, _, _, rfl⟩
  obtain ⟨d, gr, hp⟩ : ∃ d gr, Frm.parse lt = (d, gr) := ⟨_, _, rfl⟩
  rw [hx] at hln
  rw [hp] at hlp
  simp only at hln hlp
  clear hr hb h0 hK
  replace hL := Lib.hid hL
  replace hr2 := Lib.hid hr2
  replace hlen := Lib.hid hlen
  replace hb2 := Lib.hid hb2
  replace hx := Lib.hid hx
  replace hp := Lib.hid hp
  replace h0' := Lib.hid h0'
  replace hln := Lib.hid hln
  replace hlp := Lib.hid hlp
  go_enter Tryd.func5, Tryd.ntmps5
  have hC := hCp
  clear hCp
  go_wp2_with fail
  with_reducible refine hC.mono ?_
  clear hC
  (try clear hu)
  rintro e w1 ⟨v1, rfl, ho, hb⟩
  have hlow := Lib.hid hb
  have ho := ho.open_
  rw [hlen.out] at ho
  obtain ⟨q1, A3, c3, rfl, _, s1, hz⟩ := ho
  clear hz
  have hC := copyb_any A3 K c3 lt w1 s1.rb (by omega)
  replace s1 := Lib.hid s1
  clear hb
  go_wp2_with fail
  with_reducible refine hC.mono ?_
  clear hC
  (try clear hu)
  rintro e w2 ⟨v2, rfl, ho, hb⟩
  replace s1 := Lib.hid (s1.out.later hb)
  replace hlow := Lib.hid (old_later2 hlow.out hb hlow.out.size)
  have ho := ho.open_
  rw [hlen.out] at ho
  obtain ⟨q2, A4, c4, rfl, _, s2, hz⟩ := ho
  clear hz
  have hC := next_any A3 K c3 q1 lt w2 (Nat.lt_of_lt_of_le h0'.out hlow.out.size) s1.out (by omega) hb2.out
  rw [hx.out] at hC
  replace s2 := Lib.hid s2
  clear hb
  go_wp2_with fail
  with_reducible refine hC.mono ?_
  clear hC
  (try clear hu)
  rintro e v1 ⟨B1, m1, b1, rfl, r1, _, hb⟩
  replace s1 := Lib.hid (s1.out.later hb)
  replace s2 := Lib.hid (s2.out.later hb)
  replace hlow := Lib.hid (old_later2 hlow.out hb hlow.out.size)
  simp only [av]
  have hm1 : m1 ≤ 1000 := by have g1 := r1.1; have g2 := hln.out; simp only at g1; omega
  have x1 := Blk.new v1 25 #[.int .i64 a.d, .slice B1 m1 b1, .bool a.mkd, .int .i64 a.e0, .int .i64 a.e1, .int .i64 a.e2]
  clear hb
  have hb := laterA (Below.refl v1.heap.size v1) (.cells #[.int .i64 a.d, .slice B1 m1 b1, .bool a.mkd, .int .i64 a.e0, .int .i64 a.e1, .int .i64 a.e2] 25)
  replace s1 := Lib.hid (s1.out.later hb)
  replace s2 := Lib.hid (s2.out.later hb)
  replace r1 := Lib.hid (r1.later hb)
  replace hlow := Lib.hid (old_later2 hlow.out hb hlow.out.size)
  obtain ⟨u1, hu⟩ : ∃ W, v1.alloc (.cells #[.int .i64 a.d, .slice B1 m1 b1, .bool a.mkd, .int .i64 a.e0, .int .i64 a.e1, .int .i64 a.e2] 25) = W := ⟨_, rfl⟩
  replace x1 := Lib.hid x1
  rw [hu] at s1 s2 r1 x1 hlow
  have hC := dnext_any A4 K c4 q2 lt u1 s2.out (by omega) hb2.out
  rw [hx.out] at hC
  clear hb
  go_wp2_with fail
  with_reducible refine hC.mono ?_
  clear hC
  (try clear hu)
  rintro e v2 ⟨B2, m2, b2, rfl, r2, _, hb⟩
  replace s1 := Lib.hid (s1.out.later hb)
  replace s2 := Lib.hid (s2.out.later hb)
  replace r1 := Lib.hid (r1.out.later hb)
  replace x1 := Lib.hid (x1.out.later hb)
  replace hlow := Lib.hid (old_later2 hlow.out hb hlow.out.size)
  simp only [av]
  have hm2 : m2 ≤ 1000 := by have g1 := r2.1; have g2 := hln.out; simp only at g1; omega
  have x2 := Blk.new v2 25 #[.int .i64 a.d, .slice B2 m2 b2, .bool a.mkd, .int .i64 a.e0, .int .i64 a.e1, .int .i64 a.e2]
  clear hb
  have hb := laterA (Below.refl v2.heap.size v2) (.cells #[.int .i64 a.d, .slice B2 m2 b2, .bool a.mkd, .int .i64 a.e0, .int .i64 a.e1, .int .i64 a.e2] 25)
  replace s1 := Lib.hid (s1.out.later hb)
  replace s2 := Lib.hid (s2.out.later hb)
  replace r1 := Lib.hid (r1.out.later hb)
  replace x1 := Lib.hid (x1.out.later hb)
  replace r2 := Lib.hid (r2.later hb)
  replace hlow := Lib.hid (old_later2 hlow.out hb hlow.out.size)
  obtain ⟨u2, hu⟩ : ∃ W, v2.alloc (.cells #[.int .i64 a.d, .slice B2 m2 b2, .bool a.mkd, .int .i64 a.e0, .int .i64 a.e1, .int .i64 a.e2] 25) = W := ⟨_, rfl⟩
  replace x2 := Lib.hid x2
  rw [hu] at s1 s2 r1 x1 r2 x2 hlow
  have hC := parse_any A3 K c3 q1 lt u2 s1.out (by omega) hb2.out
  rw [hp.out] at hC
  clear hb
  go_wp2_with fail
  with_reducible refine hC.mono ?_
  clear hC
  (try clear hu)
  rintro e v3 ⟨B3, m3, b3, rfl, r3, _, hb⟩
  replace s1 := Lib.hid (s1.out.later hb)
  replace s2 := Lib.hid (s2.out.later hb)
  replace r1 := Lib.hid (r1.out.later hb)
  replace x1 := Lib.hid (x1.out.later hb)
  replace r2 := Lib.hid (r2.out.later hb)
  replace x2 := Lib.hid (x2.out.later hb)
  replace hlow := Lib.hid (old_later2 hlow.out hb hlow.out.size)
  simp only [av]
  have hm3 : m3 ≤ 1000 := by have g1 := r3.1; have g2 := hlp.out; simp only at g1; omega
  have x3 := Blk.new v3 25 #[.int .i64 d.d, .slice B3 m3 b3, .bool d.mkd, .int .i64 d.e0, .int .i64 d.e1, .int .i64 d.e2]
  clear hb
  have hb := laterA (Below.refl v3.heap.size v3) (.cells #[.int .i64 d.d, .slice B3 m3 b3, .bool d.mkd, .int .i64 d.e0, .int .i64 d.e1, .int .i64 d.e2] 25)
  replace s1 := Lib.hid (s1.out.later hb)
  replace s2 := Lib.hid (s2.out.later hb)
  replace r1 := Lib.hid (r1.out.later hb)
  replace x1 := Lib.hid (x1.out.later hb)
  replace r2 := Lib.hid (r2.out.later hb)
  replace x2 := Lib.hid (x2.out.later hb)
  replace r3 := Lib.hid (r3.later hb)
  replace hlow := Lib.hid (old_later2 hlow.out hb hlow.out.size)
  obtain ⟨u3, hu⟩ : ∃ W, v3.alloc (.cells #[.int .i64 d.d, .slice B3 m3 b3, .bool d.mkd, .int .i64 d.e0, .int .i64 d.e1, .int .i64 d.e2] 25) = W := ⟨_, rfl⟩
  replace x3 := Lib.hid x3
  rw [hu] at s1 s2 r1 x1 r2 x2 r3 x3 hlow
  have hC := dparse_of A4 K c4 q2 lt u3 s2.out (fun W' h => dnext_any A4 K c4 q2 lt W' h (by omega) hb2.out)
  rw [hp.out] at hC
  clear hb
  go_wp2_with fail
  with_reducible refine hC.mono ?_
  clear hC
  (try clear hu)
  rintro e v4 ⟨B4, m4, b4, rfl, r4, _, hb⟩
  replace s1 := Lib.hid (s1.out.later hb)
  replace s2 := Lib.hid (s2.out.later hb)
  replace r1 := Lib.hid (r1.out.later hb)
  replace x1 := Lib.hid (x1.out.later hb)
  replace r2 := Lib.hid (r2.out.later hb)
  replace x2 := Lib.hid (x2.out.later hb)
  replace r3 := Lib.hid (r3.out.later hb)
  replace x3 := Lib.hid (x3.out.later hb)
  replace hlow := Lib.hid (old_later2 hlow.out hb hlow.out.size)
  simp only [av]
  have hm4 : m4 ≤ 1000 := by have g1 := r4.1; have g2 := hlp.out; simp only at g1; omega
  have x4 := Blk.new v4 25 #[.int .i64 d.d, .slice B4 m4 b4, .bool d.mkd, .int .i64 d.e0, .int .i64 d.e1, .int .i64 d.e2]
  clear hb
  have hb := laterA (Below.refl v4.heap.size v4) (.cells #[.int .i64 d.d, .slice B4 m4 b4, .bool d.mkd, .int .i64 d.e0, .int .i64 d.e1, .int .i64 d.e2] 25)
  replace s1 := Lib.hid (s1.out.later hb)
  replace s2 := Lib.hid (s2.out.later hb)
  replace r1 := Lib.hid (r1.out.later hb)
  replace x1 := Lib.hid (x1.out.later hb)
  replace r2 := Lib.hid (r2.out.later hb)
  replace x2 := Lib.hid (x2.out.later hb)
  replace r3 := Lib.hid (r3.out.later hb)
  replace x3 := Lib.hid (x3.out.later hb)
  replace r4 := Lib.hid (r4.later hb)
  replace hlow := Lib.hid (old_later2 hlow.out hb hlow.out.size)
  obtain ⟨u4, hu⟩ : ∃ W, v4.alloc (.cells #[.int .i64 d.d, .slice B4 m4 b4, .bool d.mkd, .int .i64 d.e0, .int .i64 d.e1, .int .i64 d.e2] 25) = W := ⟨_, rfl⟩
  replace x4 := Lib.hid x4
  rw [hu] at s1 s2 r1 x1 r2 x2 r3 x3 r4 x4 hlow
  have hC := rfsame_any a a B1 B2 m1 b1 m2 b2 u4 r1.out r2.out hm1
  rw [(Frm.sm_iff a a).2 rfl] at hC
  simp only [av] at hC
  have p0 := x1.out.cell 0
  have p1 := x1.out.cell 1
  have p2 := x1.out.cell 2
  have p3 := x1.out.cell 3
  have p4 := x1.out.cell 4
  have p5 := x1.out.cell 5
  have o0 := x2.out.cell 0
  have o1 := x2.out.cell 1
  have o2 := x2.out.cell 2
  have o3 := x2.out.cell 3
  have o4 := x2.out.cell 4
  have o5 := x2.out.cell 5
  simp at p0 p1 p2 p3 p4 p5 o0 o1 o2 o3 o4 o5
  clear hb
  go_wp2_with fail
  with_reducible refine hC.mono ?_
  clear hC
  clear p0 p1 p2 p3 p4 p5 o0 o1 o2 o3 o4 o5
  (try clear hu)
  rintro e w9 ⟨rfl, hb⟩
  replace s1 := Lib.hid (s1.out.later hb)
  replace s2 := Lib.hid (s2.out.later hb)
  replace x3 := Lib.hid (x3.out.later hb)
  replace x4 := Lib.hid (x4.out.later hb)
  replace r3 := Lib.hid (r3.out.later hb)
  replace r4 := Lib.hid (r4.out.later hb)
  replace hlow := Lib.hid (old_later2 hlow.out hb hlow.out.size)
  clear hb x1 x2 r1 r2
  have hC := rfsame_any d d B3 B4 m3 b3 m4 b4 w9 r3.out r4.out hm3
  rw [(Frm.sm_iff d d).2 rfl] at hC
  simp only [av] at hC
  have p0 := x3.out.cell 0
  have p1 := x3.out.cell 1
  have p2 := x3.out.cell 2
  have p3 := x3.out.cell 3
  have p4 := x3.out.cell 4
  have p5 := x3.out.cell 5
  have o0 := x4.out.cell 0
  have o1 := x4.out.cell 1
  have o2 := x4.out.cell 2
  have o3 := x4.out.cell 3
  have o4 := x4.out.cell 4
  have o5 := x4.out.cell 5
  simp at p0 p1 p2 p3 p4 p5 o0 o1 o2 o3 o4 o5
  go_wp2_with fail
  with_reducible refine hC.mono ?_
  clear hC
  clear p0 p1 p2 p3 p4 p5 o0 o1 o2 o3 o4 o5
  rintro e w10 ⟨rfl, hb⟩
  replace s1 := Lib.hid (s1.out.later hb)
  replace s2 := Lib.hid (s2.out.later hb)
  replace hlow := Lib.hid (old_later2 hlow.out hb hlow.out.size)
  clear hb
  have hC := eqb_same s1.out.rb s2.out.rb hb2.out
  go_wp2_with fail
  with_reducible refine hC.mono ?_
  clear hC
  rintro e w11 ⟨rfl, rfl⟩
  have hC := fworks_any w10 (hL.out.later hlow.out)
  go_wp2_with fail
  with_reducible refine hC.mono ?_
  clear hC
  rintro e w12 ⟨rfl, hb⟩
  go_wp2
  go_ret
  exact ⟨rfl, old_later2 hlow.out hb hlow.out.size⟩
end Go.Proofs.YtpagdcobhbkabaaDoor
