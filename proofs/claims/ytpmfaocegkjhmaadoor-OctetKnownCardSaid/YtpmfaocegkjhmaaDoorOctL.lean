/-
  Layer 2: the statements' puts and works.
-/
import Derived.Test.YtpmfaocegkjhmaaDoorOctF
import Derived.Test.YtpmfaocegkjhmaaDoorOctK
namespace Go.Proofs.YtpmfaocegkjhmaaDoor
open Go.RowKit Go.Sort Go.Shelf Go.Deep Go.WideShapes

theorem Sl.nil (w : World) (q : Nat) : Sl w q none 0 0 [] := ⟨rfl, Nat.le_refl _, by unfold maxLen; omega, .inl ⟨rfl, rfl, rfl⟩⟩
theorem eqb_same {A A' : Option Addr} {n c n' c' : Nat} {l : List Int} {w : World} (h : Rb w A n c l) (h' : Rb w A' n' c' l) (hl : Oct.Bys l) :
    Calls Tryd.prog 15 #[.slice A n c, .slice A' n' c'] w fun e w' => e = .returned (.bool true) ∧ w = w' := by
  have := eqb_any A A' n c n' c' l l w h h' hl hl
  simpa using this
theorem put_good {n : Int} (h0 : 0 ≤ n) (h1 : n ≤ 9007199254740991) (l : List Int) : Oct.put l n = (l ++ Oct.enc n (Oct.size n).toNat, 0) := by
  obtain ⟨hf, hp, _⟩ := Oct.fits_size h0 h1
  unfold Oct.put
  rw [show max (Oct.size n) 1 = ((Oct.size n).toNat : Int) by omega]
  exact Oct.putIn_fits l hf

set_option maxHeartbeats 2000000 in
set_option maxRecDepth 100000 in
theorem puts_any (n : Int) (A : Option Addr) (m c : Nat) (want : List Int) (w : World) (hL : Lim w) (hr : Rb w A m c want) (h0 : 0 ≤ n) (h1 : n ≤ 9007199254740991) (hw : want = Oct.enc n (Oct.size n).toNat) :
    Calls Tryd.prog 41 #[.int .i64 n, .slice A m c] w fun e w' => e = .returned (.bool true) ∧ Below w.heap.size w w' := by
  obtain ⟨hf, hp, hp8⟩ := Oct.fits_size h0 h1
  have hP := put_any none 0 0 0 [] n w hL (Sl.nil w 0) (by omega)
  rw [put_good h0 h1, List.nil_append, ← hw] at hP
  have hby : Oct.Bys want := by rw [hw]; exact Oct.enc_bys hf
  have hlen : (want.length : Int) = Oct.size n := by rw [hw, Oct.enc_length]; omega
  have hnum : Oct.num ⟨want, 0⟩ = (n, ⟨[], 0⟩) := by
    have := Oct.numL_enc hf []
    rw [List.append_nil, ← hw] at this
    exact this
  have hm := hr.1
  clear hw hf
  replace hL := Lib.hid hL
  replace hr := Lib.hid hr
  rw [hm] at hlen
  have hSz := fun W (h : Lim W) => size_any n W h
  generalize Oct.size n = z at *
  obtain rfl := hlen
  replace hby := Lib.hid hby
  replace hnum := Lib.hid hnum
  replace h0 := Lib.hid h0
  replace h1 := Lib.hid h1
  replace hp := Lib.hid hp
  replace hp8 := Lib.hid hp8
  replace hSz := Lib.hid hSz
  go_enter Tryd.func41, Tryd.ntmps41
  go_wp2_with fail
  refine hP.mono ?_
  rintro e w1 ⟨v, rfl, ho, hb1⟩
  clear hP
  obtain ⟨q, A1, c1, rfl, hq, hsl, _⟩ := ho.open_
  have hr1 := Lib.hid (hr.out.later hb1)
  have hL1 := Lib.hid (hL.out.later hb1)
  have hN := newr_any A1 want.length c1 q want w1 hsl (by have := hp8.out; omega) hby.out
  have hE := hsl.rb
  replace hsl := Lib.hid hsl
  replace hb1 := Lib.hid hb1
  clear ho
  simp only [hm] at hN hE ⊢
  go_wp2_with fail
  refine hN.mono ?_
  rintro e w2 ⟨p, q2, rfl, hrd, hp1, hq1, hpq, hb2⟩
  clear hN
  have hE2 := eqb_same (hE.later hb2) (hr1.out.later hb2) hby.out
  have hL2 := Lib.hid (hL1.out.later hb2)
  have hb02 := Lib.hid (later hb1.out hb2)
  replace hrd := Lib.hid hrd
  replace hb2 := Lib.hid hb2
  replace hE := Lib.hid hE
  go_wp2_with fail
  refine hE2.mono ?_
  rintro e w3 ⟨rfl, rfl⟩
  clear hE2
  have hNu := num_any p q2 _ w2 hrd.out hpq
  rw [hnum.out] at hNu
  go_wp2_with fail
  refine hNu.mono ?_
  rintro e w3 ⟨rfl, hrd3, hon⟩
  clear hNu
  have hb03 := Lib.hid (only_old hb02.out hon (by rintro k rfl; have := hb1.out.size; omega) hb02.out.size)
  have hb13 := Lib.hid (only_old hb2.out hon (by rintro k rfl; exact hp1) hb2.out.size)
  have hL3 := Lib.hid (hL1.out.later hb13.out)
  replace hrd3 := Lib.hid hrd3
  replace hon := Lib.hid hon
  go_wp2_with fail
  refine (end_any p q2 _ w3 hrd3.out).mono ?_
  rintro e w4 ⟨rfl, rfl⟩
  go_wp2_with fail
  refine (hSz.out _ hL3.out).mono ?_
  rintro e w5 ⟨rfl, hb5⟩
  go_wp2
  go_ret
  exact ⟨rfl, old_later2 hb03.out hb5 hb03.out.size⟩

/-! ### Readers whose blocks are told -/
theorem Rdr.other {w : World} {p q : Nat} {s : Oct.St} (h : Rdr w p q s) (hq : ¬ q < w.heap.size) (q' : Nat) : Rdr w p q' s := by
  obtain ⟨A, n, c, h1, ⟨h2, h3, h4, h5 | ⟨off, _, h6, _⟩⟩, h7⟩ := h
  · exact ⟨A, n, c, h1, ⟨h2, h3, h4, .inl h5⟩, h7⟩
  · exact absurd h6 hq
theorem RRdr.other {w : World} {p q : Nat} {s : Oct.St} (h : RRdr w p q s) (hq : ¬ q < w.heap.size) (q' : Nat) : RRdr w p q' s := by
  obtain ⟨A, n, c, h1, ⟨h2, h3, h4, h5 | ⟨off, _, h6, _⟩⟩, h7⟩ := h
  · exact ⟨A, n, c, h1, ⟨h2, h3, h4, .inl h5⟩, h7⟩
  · exact absurd h6 hq
/-- A reader at p that was made behind B: its blocks. -/
structure At (w : World) (B p q : Nat) : Prop where
  p0 : B ≤ p
  p1 : p < w.heap.size
  q1 : q < w.heap.size
  ne : p ≠ q
  q0 : q = 0 ∨ B ≤ q
theorem At.later {w w' : World} {B p q : Nat} (h : At w B p q) (hs : w.heap.size ≤ w'.heap.size) : At w' B p q := ⟨h.p0, Nat.lt_of_lt_of_le h.p1 hs, Nat.lt_of_lt_of_le h.q1 hs, h.ne, h.q0⟩
theorem newr2_any (A : Option Addr) (n c q : Nat) (l : List Int) (w : World) (h0 : 0 < w.heap.size) (h : Sl w q A n c l) (hs : n ≤ 1000) (hl : Oct.Bys l) :
    Calls Tryd.prog 23 #[.slice A n c] w fun e w' => ∃ p q', e = .returned (.pointer (some ⟨p, 0, none⟩)) ∧ Rdr w' p q' ⟨l, 0⟩ ∧ At w' w.heap.size p q' ∧ Below w.heap.size w w' :=
  (newr_any A n c q l w h hs hl).mono fun e w' ⟨p, q', h1, h2, h3, h4, h5, h6⟩ => by
    by_cases hq : q' < w'.heap.size
    · exact ⟨p, q', h1, h2, ⟨h3, h2.lt, hq, h5, .inr h4⟩, h6⟩
    · exact ⟨p, 0, h1, h2.other hq 0, ⟨h3, h2.lt, Nat.lt_of_lt_of_le h0 h6.size, by omega, .inl rfl⟩, h6⟩
theorem rnewr2_any (A : Option Addr) (n c : Nat) (l : List Int) (w : World) (h0 : 0 < w.heap.size) (h : Rb w A n c l) (hs : n ≤ 1000) (hl : Oct.Bys l) :
    Calls Tryd.prog 29 #[.slice A n c] w fun e w' => ∃ p q', e = .returned (.pointer (some ⟨p, 0, none⟩)) ∧ RRdr w' p q' ⟨l, 0⟩ ∧ At w' w.heap.size p q' ∧ Below w.heap.size w w' :=
  (rnewr_any A n c l w h hs hl).mono fun e w' ⟨p, q', h1, h2, h3, h4, h5, h6⟩ => by
    by_cases hq : q' < w'.heap.size
    · exact ⟨p, q', h1, h2, ⟨h3, h2.lt, hq, h5, .inr h4⟩, h6⟩
    · exact ⟨p, 0, h1, h2.other hq 0, ⟨h3, h2.lt, Nat.lt_of_lt_of_le h0 h6.size, by omega, .inl rfl⟩, h6⟩

/-! ### Written-out bytes -/
theorem sl_new (W : World) (l : List Int) (cs : Array Value) (k : Nat) (hk : l.length = k) (hc : cs.toList = u8 l) (hm : k ≤ maxLen) : Sl (W.alloc (.cells cs 5)) W.heap.size (some ⟨W.heap.size, 0, none⟩) k k l :=
  ⟨hk, Nat.le_refl _, hm, .inr ⟨0, rfl, (Blk.new W _ _).lt, fun j hj => by
    rw [Nat.zero_add, (Blk.new W _ _).cell, ← Array.getElem?_toList, hc]
    simp [u8, hj]⟩⟩
theorem puts_new (n : Int) (l : List Int) (cs : Array Value) (k : Nat) (w : World) (hL : Lim w) (hk : l.length = k) (hc : cs.toList = u8 l) (hm : k ≤ 8) (h0 : 0 ≤ n) (h1 : n ≤ 9007199254740991) (hw : l = Oct.enc n (Oct.size n).toNat) :
    Calls Tryd.prog 41 #[.int .i64 n, .slice (some ⟨w.heap.size, 0, none⟩) k k] (w.alloc (.cells cs 5)) fun e w' => e = .returned (.bool true) ∧ Below w.heap.size w w' :=
  (puts_any n _ k k l _ (hL.alloc _) (sl_new w l cs k hk hc (by unfold maxLen; omega)).rb h0 h1 hw).mono fun _ _ ⟨h, hb⟩ => ⟨h, later (laterA (Below.refl _ _) _) hb⟩
theorem newr_new (l : List Int) (cs : Array Value) (k : Nat) (w : World) (hk : l.length = k) (hc : cs.toList = u8 l) (hm : k ≤ 8) (hl : Oct.Bys l) :
    Calls Tryd.prog 23 #[.slice (some ⟨w.heap.size, 0, none⟩) k k] (w.alloc (.cells cs 5)) fun e w' => ∃ p q', e = .returned (.pointer (some ⟨p, 0, none⟩)) ∧ Rdr w' p q' ⟨l, 0⟩ ∧ At w' w.heap.size p q' ∧ Below w.heap.size w w' :=
  (newr2_any _ k k _ l _ (by simp) (sl_new w l cs k hk hc (by unfold maxLen; omega)) (by omega) hl).mono fun _ _ ⟨p, q', h1, h2, h3, h4⟩ => ⟨p, q', h1, h2, ⟨Nat.le_trans (by simp) h3.p0, h3.p1, h3.q1, h3.ne, h3.q0.imp id (fun h => Nat.le_trans (by simp) h)⟩, later (laterA (Below.refl _ _) _) h4⟩
theorem strict_new (l : List Int) (b : Bool) (cs : Array Value) (k : Nat) (w : World) (hL : Lim w) (hk : l.length = k) (hc : cs.toList = u8 l) (hm : k ≤ 8) (hl : Oct.Bys l) (hs : Oct.strict l = b) :
    Calls Tryd.prog 21 #[.slice (some ⟨w.heap.size, 0, none⟩) k k] (w.alloc (.cells cs 5)) fun e w' => e = .returned (.bool b) ∧ Below w.heap.size w w' :=
  (strict_any _ k k _ l _ (hL.alloc _) (sl_new w l cs k hk hc (by unfold maxLen; omega)) (by omega) hl).mono fun _ _ ⟨h, hb⟩ => ⟨by rw [h, hs], later (laterA (Below.refl _ _) _) hb⟩
theorem eqb_new {A : Option Addr} {n c : Nat} (l : List Int) (cs : Array Value) (k : Nat) (w : World) (h : Rb w A n c l) (hk : l.length = k) (hc : cs.toList = u8 l) (hm : k ≤ 8) (hl : Oct.Bys l) :
    Calls Tryd.prog 15 #[.slice A n c, .slice (some ⟨w.heap.size, 0, none⟩) k k] (w.alloc (.cells cs 5)) fun e w' => e = .returned (.bool true) ∧ Below w.heap.size w w' :=
  (eqb_same (h.later (laterA (Below.refl _ _) _)) (sl_new w l cs k hk hc (by unfold maxLen; omega)).rb hl).mono fun _ _ ⟨h, hb⟩ => ⟨h, hb ▸ laterA (Below.refl _ _) _⟩
end Go.Proofs.YtpmfaocegkjhmaaDoor
