/-
  Layer 2: OctetReads: helpers.
-/
import Derived.Test.YtpagdcobhbkabaaDoorOctN
namespace Go.Proofs.YtpagdcobhbkabaaDoor
open Go.RowKit Go.Sort Go.Shelf Go.Deep Go.WideShapes

/-- Bytes that may be written over: a slice of the call's own, its block g. -/
def Bx (w : World) (g n : Nat) : Prop := ∃ cs, Blk w g 5 cs ∧ ∀ k, k < n → ∃ x, cs[k]? = some (.int .u8 x)
theorem Bx.cell {w : World} {g n k : Nat} (h : Bx w g n) (hk : k < n) : ∃ x, w.cell? ⟨g, k, none⟩ = some (.int .u8 x) ∧ w.frozen? ⟨g, k, none⟩ = false := by
  obtain ⟨cs, h1, h2⟩ := h
  obtain ⟨x, hx⟩ := h2 k hk
  exact ⟨x, (h1.cell k).trans hx, h1.frozen k⟩
theorem Bx.set {w : World} {g n : Nat} (h : Bx w g n) (k : Nat) (y : Int) : Bx (w.setCell ⟨g, k, none⟩ (.int .u8 y)) g n := by
  obtain ⟨cs, h1, h2⟩ := h
  refine ⟨_, h1.set_ k _, fun j hj => ?_⟩
  obtain ⟨x, hx⟩ := h2 j hj
  by_cases hjk : k = j
  · subst hjk
    refine ⟨y, ?_⟩
    rw [Array.getElem?_setIfInBounds_self_of_lt (Array.getElem?_eq_some_iff.1 hx).1]
  · exact ⟨x, by rw [Array.getElem?_setIfInBounds_ne hjk]; exact hx⟩
theorem OB.bx {w : World} {B : Nat} {v : Value} {l : List Int} (h : OB w B v l) : ∃ A c g, v = .slice A l.length c ∧ B ≤ g ∧ l.length ≤ c ∧ (0 < l.length → A = some ⟨g, 0, none⟩ ∧ g < w.heap.size ∧ Bx w g l.length) ∧ Rb w A l.length c l := by
  obtain ⟨A0, c0, e0, hr0⟩ := h.rb
  rcases h.2 with ⟨e1, h0⟩ | ⟨g, cap, cur, e1, hb, hh, hn, hm, hs, ht⟩
  · exact ⟨A0, c0, B, e0, Nat.le_refl _, hr0.2.1, fun h => by omega, hr0⟩
  · rw [e1] at e0
    injection e0 with a1 a2 a3
    subst a1 a3
    refine ⟨_, cap, g, e1, hb, hn, fun _ => ⟨rfl, (Array.getElem?_eq_some_iff.1 hh).1, cur, hh, fun k hk => ?_⟩, hr0⟩
    have e1 : (u8 l)[k]? = some (.int .u8 l[k]) := by simp [u8, hk]
    rw [← ht, List.getElem?_take_of_lt (by omega)] at e1
    exact ⟨l[k], by simpa using e1⟩
theorem Bx.later {w w' : World} {g n : Nat} (h : Bx w g n) (hb : Below w.heap.size w w') : Bx w' g n := by
  obtain ⟨cs, h1, h2⟩ := h
  exact ⟨cs, h1.later hb, h2⟩
theorem OB.but {w w' : World} {B p : Nat} {v : Value} {l : List Int} (h : OB w B v l) (ho : Only (· = p) w w') (hp : p < B) : OB w' B v l :=
  World.ownsRow.kept h (row := some p) ho.grown (by
    rcases h.2 with ⟨rfl, _⟩ | ⟨g, cap, cur, rfl, hb, _⟩
    · exact .inl rfl
    · right
      simp [Value.ownBlock]
      omega)
theorem Rdr.drewN {w : World} {p q : Nat} {s : Oct.St} (h : Rdr w p q s) (n : Nat) : Rdr (w.drewN n) p q s := h
theorem RRdr.drewN {w : World} {p q : Nat} {s : Oct.St} (h : RRdr w p q s) (n : Nat) : RRdr (w.drewN n) p q s := h
theorem RRdr.err {w : World} {p q : Nat} {s : Oct.St} (h : RRdr w p q s) : w.cell? ⟨p, 1, none⟩ = some (.int .i64 s.e) := by
  obtain ⟨A, n, c, h1, _⟩ := h
  have := h1.cell 1
  simpa using this
theorem Rd.at1 {w : World} {A : Option Addr} {n : Nat} {f : Nat → Nat → Int} (h : Rd w A 1 n f) {k : Nat} (hk : k < n) :
    ∃ b off, A = some ⟨b, off, none⟩ ∧ ∀ wx, Below w.heap.size w wx → wx.cell? ⟨b, off + k, none⟩ = some (.int .i64 (f k 0)) := by
  obtain ⟨b, off, rfl, hb, hc⟩ := h (by omega)
  refine ⟨b, off, rfl, fun wx hx => (hx.cell (p := ⟨b, _, none⟩) hb).trans ?_⟩
  have := hc k hk 0 (by omega)
  rwa [show off + (k * 1 + 0) = off + k by omega] at this
theorem bys_take_reader {k : Int} {s : Oct.St} (h : Oct.Bys s.l) : Oct.Bys (Oct.take k s).1 := by
  unfold Oct.take
  (repeat' split)
  · exact Oct.Bys.nil
  · exact Oct.Bys.nil
  · exact h.take _
  · exact Oct.Bys.nil
theorem Rdr.bys {w : World} {p q : Nat} {s : Oct.St} (h : Rdr w p q s) : Oct.Bys s.l := by
  obtain ⟨A, n, c, _, _, h3, _⟩ := h
  exact h3
theorem Rdr.len {w : World} {p q : Nat} {s : Oct.St} (h : Rdr w p q s) : s.l.length ≤ 10000 := by
  obtain ⟨A, n, c, _, h2, _, h4⟩ := h
  rw [h2.1]; exact h4
theorem take_length (k : Int) (s : Oct.St) : (Oct.take k s).1.length ≤ s.l.length := by
  unfold Oct.take
  (repeat' split) <;> simp
  omega
/-- A slice that is none, or one of the block g of which n bytes may be written over. -/
def Ov (w : World) (A : Option Addr) (g n : Nat) : Prop := 0 < n → A = some ⟨g, 0, none⟩ ∧ g < w.heap.size ∧ Bx w g n
theorem Ov.later {w w' : World} {A : Option Addr} {g n : Nat} (h : Ov w A g n) (hb : Below w.heap.size w w') : Ov w' A g n := fun h0 => by
  obtain ⟨h1, h2, h3⟩ := h h0
  exact ⟨h1, Nat.lt_of_lt_of_le h2 hb.size, h3.later hb⟩
theorem Ov.set {w : World} {A : Option Addr} {g n : Nat} (h : Ov w A g n) (k : Nat) (y : Int) : Ov (w.setCell ⟨g, k, none⟩ (.int .u8 y)) A g n := fun h0 => by
  obtain ⟨h1, h2, h3⟩ := h h0
  exact ⟨h1, by simpa [World.setCell] using h2, h3.set k y⟩
theorem Rdr.wr {w : World} {p q g : Nat} {s : Oct.St} (h : Rdr w p q s) (hp : p ≠ g) (hq : q ≠ g) (k : Nat) (u : Value) : Rdr (w.setCell ⟨g, k, none⟩ u) p q s := h.but (Only.set (F := (· = g)) (Only.refl _ w) (p := ⟨g, k, none⟩) rfl u) hp hq
theorem RRdr.wr {w : World} {p q g : Nat} {s : Oct.St} (h : RRdr w p q s) (hp : p ≠ g) (hq : q ≠ g) (k : Nat) (u : Value) : RRdr (w.setCell ⟨g, k, none⟩ u) p q s := h.but (Only.set (F := (· = g)) (Only.refl _ w) (p := ⟨g, k, none⟩) rfl u) hp hq
theorem low_wr {w w' : World} {B g : Nat} (h : Below B w w') (hg : B ≤ g) (hs : B ≤ w'.heap.size) (k : Nat) (u : Value) : Below B w (w'.setCell ⟨g, k, none⟩ u) :=
  only_old h (Only.set (F := (· = g)) (Only.refl _ w') (p := ⟨g, k, none⟩) rfl u) (by rintro i rfl; exact hg) hs
end Go.Proofs.YtpagdcobhbkabaaDoor
