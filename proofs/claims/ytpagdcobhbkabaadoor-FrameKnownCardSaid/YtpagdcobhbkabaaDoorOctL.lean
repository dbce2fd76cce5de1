/-
  Layer 2: the statements' puts and works.
-/
import Derived.Test.YtpagdcobhbkabaaDoorOctF
import Derived.Test.YtpagdcobhbkabaaDoorOctK
namespace Go.Proofs.YtpagdcobhbkabaaDoor
open Go.RowKit Go.Sort Go.Shelf Go.Deep Go.WideShapes

theorem Sl.nil (w : World) (q : Nat) : Sl w q none 0 0 [] := ⟨rfl, Nat.le_refl _, by unfold maxLen; omega, .inl ⟨rfl, rfl, rfl⟩⟩
theorem eqb_same {A A' : Option Addr} {n c n' c' : Nat} {l : List Int} {w : World} (h : Rb w A n c l) (h' : Rb w A' n' c' l) (hl : Oct.Bys l) :
    Calls Tryd.prog 17 #[.slice A n c, .slice A' n' c'] w fun e w' => e = .returned (.bool true) ∧ w = w' := by
  have := eqb_any A A' n c n' c' l l w h h' hl hl
  simpa using this
theorem put_good {n : Int} (h0 : 0 ≤ n) (h1 : n ≤ 9007199254740991) (l : List Int) : Oct.put l n = (l ++ Oct.enc n (Oct.size n).toNat, 0) := by
  obtain ⟨hf, hp, _⟩ := Oct.fits_size h0 h1
  unfold Oct.put
  rw [show max (Oct.size n) 1 = ((Oct.size n).toNat : Int) by omega]
  exact Oct.putIn_fits l hf

/-! ### Readers whose blocks are told -/
theorem Rdr.other {w : World} {p q : Nat} {s : Oct.St} (h : Rdr w p q s) (hq : ¬ q < w.heap.size) (q' : Nat) : Rdr w p q' s := by
  obtain ⟨A, n, c, h1, ⟨h2, h3, h4, h5 | ⟨off, _, h6, _⟩⟩, h7⟩ := h
  · exact ⟨A, n, c, h1, ⟨h2, h3, h4, .inl h5⟩, h7⟩
  · exact absurd h6 hq
theorem RRdr.other {w : World} {p q : Nat} {s : Oct.St} (h : RRdr w p q s) (hq : ¬ q < w.heap.size) (q' : Nat) : RRdr w p q' s := by
  obtain ⟨A, n, c, h1, ⟨h2, h3, h4, h5 | ⟨off, _, h6, _⟩⟩, h7⟩ := h
  · exact ⟨A, n, c, h1, ⟨h2, h3, h4, .inl h5⟩, h7⟩
  · exact absurd h6 hq
/-- A reader at p that was made behind B: its blocks. -/
structure At (w : World) (B p q : Nat) : Prop where
  p0 : B ≤ p
  p1 : p < w.heap.size
  q1 : q < w.heap.size
  ne : p ≠ q
  q0 : q = 0 ∨ B ≤ q
theorem At.later {w w' : World} {B p q : Nat} (h : At w B p q) (hs : w.heap.size ≤ w'.heap.size) : At w' B p q := ⟨h.p0, Nat.lt_of_lt_of_le h.p1 hs, Nat.lt_of_lt_of_le h.q1 hs, h.ne, h.q0⟩
theorem newr2_any (A : Option Addr) (n c q : Nat) (l : List Int) (w : World) (h0 : 0 < w.heap.size) (h : Sl w q A n c l) (hs : n ≤ 10000) (hl : Oct.Bys l) :
    Calls Tryd.prog 46 #[.slice A n c] w fun e w' => ∃ p q', e = .returned (.pointer (some ⟨p, 0, none⟩)) ∧ Rdr w' p q' ⟨l, 0⟩ ∧ At w' w.heap.size p q' ∧ Below w.heap.size w w' :=
  (newr_any A n c q l w h hs hl).mono fun e w' ⟨p, q', h1, h2, h3, h4, h5, h6⟩ => by
    by_cases hq : q' < w'.heap.size
    · exact ⟨p, q', h1, h2, ⟨h3, h2.lt, hq, h5, .inr h4⟩, h6⟩
    · exact ⟨p, 0, h1, h2.other hq 0, ⟨h3, h2.lt, Nat.lt_of_lt_of_le h0 h6.size, by omega, .inl rfl⟩, h6⟩
theorem rnewr2_any (A : Option Addr) (n c : Nat) (l : List Int) (w : World) (h0 : 0 < w.heap.size) (h : Rb w A n c l) (hs : n ≤ 10000) (hl : Oct.Bys l) :
    Calls Tryd.prog 50 #[.slice A n c] w fun e w' => ∃ p q', e = .returned (.pointer (some ⟨p, 0, none⟩)) ∧ RRdr w' p q' ⟨l, 0⟩ ∧ At w' w.heap.size p q' ∧ Below w.heap.size w w' :=
  (rnewr_any A n c l w h hs hl).mono fun e w' ⟨p, q', h1, h2, h3, h4, h5, h6⟩ => by
    by_cases hq : q' < w'.heap.size
    · exact ⟨p, q', h1, h2, ⟨h3, h2.lt, hq, h5, .inr h4⟩, h6⟩
    · exact ⟨p, 0, h1, h2.other hq 0, ⟨h3, h2.lt, Nat.lt_of_lt_of_le h0 h6.size, by omega, .inl rfl⟩, h6⟩

/-! ### Written-out bytes -/
theorem sl_new (W : World) (l : List Int) (cs : Array Value) (k : Nat) (hk : l.length = k) (hc : cs.toList = u8 l) (hm : k ≤ maxLen) : Sl (W.alloc (.cells cs 5)) W.heap.size (some ⟨W.heap.size, 0, none⟩) k k l :=
  ⟨hk, Nat.le_refl _, hm, .inr ⟨0, rfl, (Blk.new W _ _).lt, fun j hj => by
    rw [Nat.zero_add, (Blk.new W _ _).cell, ← Array.getElem?_toList, hc]
    simp [u8, hj]⟩⟩
theorem newr_new (l : List Int) (cs : Array Value) (k : Nat) (w : World) (hk : l.length = k) (hc : cs.toList = u8 l) (hm : k ≤ 8) (hl : Oct.Bys l) :
    Calls Tryd.prog 46 #[.slice (some ⟨w.heap.size, 0, none⟩) k k] (w.alloc (.cells cs 5)) fun e w' => ∃ p q', e = .returned (.pointer (some ⟨p, 0, none⟩)) ∧ Rdr w' p q' ⟨l, 0⟩ ∧ At w' w.heap.size p q' ∧ Below w.heap.size w w' :=
  (newr2_any _ k k _ l _ (by simp) (sl_new w l cs k hk hc (by unfold maxLen; omega)) (by omega) hl).mono fun _ _ ⟨p, q', h1, h2, h3, h4⟩ => ⟨p, q', h1, h2, ⟨Nat.le_trans (by simp) h3.p0, h3.p1, h3.q1, h3.ne, h3.q0.imp id (fun h => Nat.le_trans (by simp) h)⟩, later (laterA (Below.refl _ _) _) h4⟩
theorem eqb_new {A : Option Addr} {n c : Nat} (l : List Int) (cs : Array Value) (k : Nat) (w : World) (h : Rb w A n c l) (hk : l.length = k) (hc : cs.toList = u8 l) (hm : k ≤ 8) (hl : Oct.Bys l) :
    Calls Tryd.prog 17 #[.slice A n c, .slice (some ⟨w.heap.size, 0, none⟩) k k] (w.alloc (.cells cs 5)) fun e w' => e = .returned (.bool true) ∧ Below w.heap.size w w' :=
  (eqb_same (h.later (laterA (Below.refl _ _) _)) (sl_new w l cs k hk hc (by unfold maxLen; omega)).rb hl).mono fun _ _ ⟨h, hb⟩ => ⟨h, hb ▸ laterA (Below.refl _ _) _⟩
end Go.Proofs.YtpagdcobhbkabaaDoor
