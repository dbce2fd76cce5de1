/-
  Layer 5: the program's Next and Parse.
-/
import Derived.Test.YtpagdcobhbkabaaDoorFrD
namespace Go.Proofs.YtpagdcobhbkabaaDoor
open Go.RowKit Go.Sort Go.Shelf Go.Deep Go.WideShapes

/-- An ACK and two numbers behind it. -/
def AckN (w0 : World) (x : Frm.Ak × Int × Int) (e : Ending) (w' : World) : Prop :=
  ∃ A n c, e = .returned (.tuple #[av x.1 A n c, .int .i64 x.2.1, .int .i64 x.2.2]) ∧ Rg w' A n c x.1.rs ∧ (∀ a, A = some a → w0.heap.size ≤ a.block) ∧ Below w0.heap.size w0 w'
theorem no_addr {B : Nat} : ∀ a, (none : Option Addr) = some a → B ≤ a.block := fun a h => by simp at h
theorem Rg.zero {w : World} : Rg w none 0 0 Frm.zero.rs := ⟨rfl, Nat.le_refl _, by simp [maxLen], .inl ⟨rfl, rfl, rfl⟩⟩
theorem nxt_cons (t : Int) (l : List Int) : Frm.nxt (t :: l) = if t = 2 ∨ t = 3 then (match Frm.body (decide (t = 3)) l with
      | .error e => (Frm.zero, 0, e)
      | .ok (a, r) => (a, ((t :: l).length : Int) - r.length, 0)) else (Frm.zero, 0, 50) := rfl
theorem AckN.of_next {w0 : World} {t : Int} {l : List Int} (ht : t = 2 ∨ t = 3) {e : Ending} {w' : World} {n : Nat} (hn : (t :: l).length = n) (h : NextPost w0 n (Frm.body (decide (t = 3)) l) e w') : AckN w0 (Frm.nxt (t :: l)) e w' := by
  obtain ⟨h1, h2⟩ := h
  unfold AckN
  rw [nxt_cons, if_pos ht]
  subst hn
  cases hx : Frm.body (decide (t = 3)) l with
  | error err =>
    rw [hx] at h1
    exact ⟨none, 0, 0, h1, Rg.zero, no_addr, h2⟩
  | ok x =>
    obtain ⟨a, r⟩ := x
    rw [hx] at h1
    obtain ⟨A, n, c, h3, h4, h5⟩ := h1
    exact ⟨A, n, c, h3, h4, h5, h2⟩
set_option maxHeartbeats 2000000 in
set_option maxRecDepth 100000 in
theorem next_any (A : Option Addr) (n c q0 : Nat) (l : List Int) (w : World) (h0 : 0 < w.heap.size) (h : Sl w q0 A n c l) (hs : n ≤ 10000) (hb : Oct.Bys l) :
    Calls Tryd.prog 24 #[.slice A n c] w (AckN w (Frm.nxt l)) := by
  cases l with
  | nil =>
    have hn : n = 0 := by have := h.1; simpa using this.symm
    subst hn
    clear h hb h0
    have hbx := Blk.new w 25 #[.int .i64 0, .slice none 0 0, .bool false, .int .i64 0, .int .i64 0, .int .i64 0]
    go_enter Tryd.func24, Tryd.ntmps24
    go_wp2
    refine scope_three (fun _ _ => False) (fun _ _ => False) (fun _ _ => False) (fun _ _ _ => 0) rfl rfl rfl ?_ (fun _ _ h => h.elim) (fun _ _ h => h.elim) (fun _ _ h => h.elim)
    go_wp2_with fail
    have hlo := laterA (Below.refl w.heap.size w) (.cells #[.int .i64 0, .slice none 0 0, .bool false, .int .i64 0, .int .i64 0, .int .i64 0] 25)
    generalize w.alloc (.cells #[.int .i64 0, .slice none 0 0, .bool false, .int .i64 0, .int .i64 0, .int .i64 0] 25) = W at hbx hlo ⊢
    rw [jumpN_ret]
    refine bodyPost_ret (results_c3 rfl _ _ rfl hbx rfl) rfl ?_
    exact ⟨none, 0, 0, rfl, Rg.zero, no_addr, hlo⟩
  | cons t l =>
    by_cases ht : t = 2 ∨ t = 3
    · refine (next_some A n c q0 t l w h0 h hs hb ht).mono ?_
      intro e w' hp
      exact AckN.of_next ht h.1 hp
    · have hn := h.1
      obtain ⟨off, rfl, hq0, ht0⟩ : ∃ off, A = some ⟨q0, off, none⟩ ∧ q0 < w.heap.size ∧ w.cell? ⟨q0, off, none⟩ = some (.int .u8 t) := by
        obtain ⟨h1, h2, h3, ⟨_, h4, _⟩ | ⟨off, rfl, hq, h5⟩⟩ := h
        · rw [h4] at h1; simp at h1
        · exact ⟨off, rfl, hq, by have := h5 0 (by simp); simpa using this⟩
      have hpos : (0 : Int) < (n : Int) := by rw [← hn]; simp
      have hbx := Blk.new w 25 #[.int .i64 0, .slice none 0 0, .bool false, .int .i64 0, .int .i64 0, .int .i64 0]
      have hX : Frm.nxt (t :: l) = (Frm.zero, 0, 50) := by rw [nxt_cons, if_neg ht]
      rw [hX]
      have ht2 : ¬ t = 2 := fun h => ht (.inl h)
      have ht3 : ¬ t = 3 := fun h => ht (.inr h)
      have hposn : 0 < n := by omega
      have b2 : (t != 2) = true := by simp [ht2]
      have b3 : (t != 3) = true := by simp [ht3]
      clear ht h hb h0 hX hn
      replace hbx := Lib.hid hbx
      go_enter Tryd.func24, Tryd.ntmps24
      go_wp2
      refine scope_three (fun _ _ => False) (fun _ _ => False) (fun _ _ => False) (fun _ _ _ => 0) rfl rfl rfl ?_ (fun _ _ h => h.elim) (fun _ _ h => h.elim) (fun _ _ h => h.elim)
      go_wp2_with fail
      replace hbx := hbx.out
      have hlo := laterA (Below.refl w.heap.size w) (.cells #[.int .i64 0, .slice none 0 0, .bool false, .int .i64 0, .int .i64 0, .int .i64 0] 25)
      generalize w.alloc (.cells #[.int .i64 0, .slice none 0 0, .bool false, .int .i64 0, .int .i64 0, .int .i64 0] 25) = W at hbx hlo ⊢
      rw [jumpN_ret]
      refine bodyPost_ret (results_c3 rfl _ _ rfl hbx rfl) rfl ?_
      exact ⟨none, 0, 0, rfl, Rg.zero, no_addr, hlo⟩
theorem results_c2 {fn : Func} {p u : Tmp} (h : fn.results = #[.cell p 25, .tmp u]) (tmps : Array Value) (w : World) {g : Nat} {cs : Array Value} {t : TypeId} (hp : tmps.getD p undef = .pointer (some ⟨g, 0, none⟩)) (hg : Blk w g t cs) (hs : cs.size = 6) :
    (results fn tmps).run Tryd.prog w = .ok (.tuple #[.agg cs, tmps.getD u undef]) w := by
  have hp' : tmps[p]?.getD undef = .pointer (some ⟨g, 0, none⟩) := by simpa using hp
  simp [results, h, hp', asAddr, load_ack hg hs]
/-- The six cells of a block are set. -/
def six (w : World) (B : Nat) (v0 v1 v2 v3 v4 v5 : Value) : World := (((((w.setCell ⟨B, 0, none⟩ v0).setCell ⟨B, 1, none⟩ v1).setCell ⟨B, 2, none⟩ v2).setCell ⟨B, 3, none⟩ v3).setCell ⟨B, 4, none⟩ v4).setCell ⟨B, 5, none⟩ v5
theorem six_blk {w : World} {B : Nat} {v0 v1 v2 v3 v4 v5 : Value} {u0 u1 u2 u3 u4 u5 : Value} (h : Blk w B 25 #[u0, u1, u2, u3, u4, u5]) : Blk (six w B v0 v1 v2 v3 v4 v5) B 25 #[v0, v1, v2, v3, v4, v5] :=
  (((((h.set_ 0 _).set_ 1 _).set_ 2 _).set_ 3 _).set_ 4 _).set_ 5 _
theorem six_low {w0 w : World} {v0 v1 v2 v3 v4 v5 : Value} (h : Below w0.heap.size w0 w) : Below w0.heap.size w0 (six w w0.heap.size v0 v1 v2 v3 v4 v5) :=
  below_wr (below_wr (below_wr (below_wr (below_wr (below_wr h (Nat.le_refl _) 0 _) (Nat.le_refl _) 1 _) (Nat.le_refl _) 2 _) (Nat.le_refl _) 3 _) (Nat.le_refl _) 4 _) (Nat.le_refl _) 5 _
theorem six_only {w : World} {B : Nat} {v0 v1 v2 v3 v4 v5 : Value} : Only (· = B) w (six w B v0 v1 v2 v3 v4 v5) :=
  Only.set (F := (· = B)) (p := ⟨B, 5, none⟩) (Only.set (F := (· = B)) (p := ⟨B, 4, none⟩) (Only.set (F := (· = B)) (p := ⟨B, 3, none⟩) (Only.set (F := (· = B)) (p := ⟨B, 2, none⟩) (Only.set (F := (· = B)) (p := ⟨B, 1, none⟩) (Only.set (F := (· = B)) (p := ⟨B, 0, none⟩) (Only.refl _ w) rfl _) rfl _) rfl _) rfl _) rfl _) rfl _
theorem Rg.only {F : Nat → Prop} {w w' : World} {A : Option Addr} {n c : Nat} {rs : List (Int × Int)} (h : Rg w A n c rs) (ho : Only F w w') (hn : ∀ a, A = some a → ¬ F a.block) : Rg w' A n c rs := by
  obtain ⟨h1, h2, h3, h4 | ⟨q, off, rfl, hq, h5⟩⟩ := h
  · exact ⟨h1, h2, h3, .inl h4⟩
  · have hb := ho.block q hq (hn _ rfl)
    exact ⟨h1, h2, h3, .inr ⟨q, off, rfl, Nat.lt_of_lt_of_le hq ho.size, fun k hk => ⟨(World.cell?_of_block (a := ⟨q, _, none⟩) hb).trans (h5 k hk).1, (World.cell?_of_block (a := ⟨q, _, none⟩) hb).trans (h5 k hk).2⟩⟩⟩
/-- An ACK and a number behind it. -/
def Ack1 (w0 : World) (x : Frm.Ak × Int) (e : Ending) (w' : World) : Prop :=
  ∃ A n c, e = .returned (.tuple #[av x.1 A n c, .int .i64 x.2]) ∧ Rg w' A n c x.1.rs ∧ (∀ a, A = some a → w0.heap.size ≤ a.block) ∧ Below w0.heap.size w0 w'
set_option maxHeartbeats 2000000 in
set_option maxRecDepth 100000 in
theorem parse_any (A : Option Addr) (n c q0 : Nat) (l : List Int) (w : World) (h : Sl w q0 A n c l) (hs : n ≤ 10000) (hb : Oct.Bys l) :
    Calls Tryd.prog 28 #[.slice A n c] w (Ack1 w (Frm.parse l)) := by
  have hbx := Blk.new w 25 #[.int .i64 0, .slice none 0 0, .bool false, .int .i64 0, .int .i64 0, .int .i64 0]
  have hlo := laterA (Below.refl w.heap.size w) (.cells #[.int .i64 0, .slice none 0 0, .bool false, .int .i64 0, .int .i64 0, .int .i64 0] 25)
  have hN := next_any A n c q0 l _ (by simp) (h.later hlo) hs hb
  obtain ⟨a, k, err, hx⟩ : ∃ a k err, Frm.nxt l = (a, k, err) := ⟨_, _, _, rfl⟩
  have hP : Frm.parse l = if err = 0 then (if k < (n : Int) then (Frm.zero, 4) else (a, 0)) else (a, err) := by
    unfold Frm.parse
    rw [hx, ← h.1]
  rw [hx] at hN
  obtain ⟨P, hPP⟩ : ∃ P, Frm.parse l = P := ⟨_, rfl⟩
  rw [hPP] at hP ⊢
  clear hPP hx h
  replace hbx := Lib.hid hbx
  replace hlo := Lib.hid hlo
  replace hP := Lib.hid hP
  go_enter Tryd.func28, Tryd.ntmps28
  go_wp2_with fail
  with_reducible refine hN.mono ?_
  rintro e w1 ⟨A1, n1, c1, rfl, hrg, hfr, hb1⟩
  clear hN
  simp only [av]
  obtain ⟨d, rs, mk, m0, m1, m2⟩ := a
  have hbx1 := hbx.out.later hb1
  have hlo1 := old_later2 hlo.out hb1 (by simp)
  have hb2 := laterA (Below.refl w1.heap.size w1) (.cells #[.int .i64 d, .slice A1 n1 c1, .bool mk, .int .i64 m0, .int .i64 m1, .int .i64 m2] 25)
  have hbx2 := hbx1.later hb2
  have hlt := hbx1.lt
  have hlo2 := old_later2 hlo1 hb2 hlo1.size
  have hbn := Blk.new w1 25 #[.int .i64 d, .slice A1 n1 c1, .bool mk, .int .i64 m0, .int .i64 m1, .int .i64 m2]
  have hrg2 := hrg.later hb2
  obtain ⟨W, hW⟩ : ∃ W, w1.alloc (.cells #[.int .i64 d, .slice A1 n1 c1, .bool mk, .int .i64 m0, .int .i64 m1, .int .i64 m2] 25) = W := ⟨_, rfl⟩
  rw [hW] at hbx2 hlo2 hbn hrg2
  have c1 := hbx2.cell 0
  have c2 := hbx2.cell 1
  have c3 := hbx2.cell 2
  have c4 := hbx2.cell 3
  have c5 := hbx2.cell 4
  have c6 := hbx2.cell 5
  have e1 := hbx2.frozen 0
  have e2 := hbx2.frozen 1
  have e3 := hbx2.frozen 2
  have e4 := hbx2.frozen 3
  have e5 := hbx2.frozen 4
  have e6 := hbx2.frozen 5
  have d1 := hbn.cell 0
  have d2 := hbn.cell 1
  have d3 := hbn.cell 2
  have d4 := hbn.cell 3
  have d5 := hbn.cell 4
  have d6 := hbn.cell 5
  simp at c1 c2 c3 c4 c5 c6 d1 d2 d3 d4 d5 d6
  replace hrg := Lib.hid hrg
  replace hbx1 := Lib.hid hbx1
  replace hlo1 := Lib.hid hlo1
  replace hbx2 := Lib.hid hbx2
  replace hlo2 := Lib.hid hlo2
  replace hbn := Lib.hid hbn
  replace hrg2 := Lib.hid hrg2
  clear hbx hlo hb1 hb2
  have hfr2 : ∀ a, A1 = some a → w.heap.size + 1 ≤ a.block := by simpa using hfr
  replace hfr2 := Lib.hid hfr2
  clear hfr
  by_cases he : err = 0
  · by_cases hk : k < (n : Int)
    · go_wp2_with fail
      refine bodyPost_ret (results_c2 rfl _ _ rfl (six_blk hbx2.out) rfl) rfl ?_
      have hPe : P = (Frm.zero, 4) := by rw [hP.out, if_pos he, if_pos hk]
      rw [hPe]
      exact ⟨none, 0, 0, rfl, Rg.zero, no_addr, six_low hlo2.out⟩
    · go_wp2_with fail
      refine bodyPost_ret (results_c2 rfl _ _ rfl (six_blk hbx2.out) rfl) rfl ?_
      have hPe : P = (⟨d, rs, mk, m0, m1, m2⟩, 0) := by rw [hP.out, if_pos he, if_neg (Int.not_lt.2 hk)]
      rw [hPe]
      exact ⟨_, _, _, rfl, hrg2.out.only six_only (fun a ha => by have := hfr2.out a ha; omega), fun a ha => by have := hfr2.out a ha; omega, six_low hlo2.out⟩
  · go_wp2_with fail
    refine bodyPost_ret (results_c2 rfl _ _ rfl (six_blk hbx2.out) rfl) rfl ?_
    have hPe : P = (⟨d, rs, mk, m0, m1, m2⟩, err) := by rw [hP.out, if_neg he]
    rw [hPe]
    exact ⟨_, _, _, rfl, hrg2.out.only six_only (fun a ha => by have := hfr2.out a ha; omega), fun a ha => by have := hfr2.out a ha; omega, six_low hlo2.out⟩
end Go.Proofs.YtpagdcobhbkabaaDoor
