/-
  The card of sounderlaw05.FrameKnown: for every input the law returns true, and each argument reads afterwards as it read before, where octet.limits holds what the program's text lays; the card ties that.
  Conditions: none beyond the row's own.
-/
import Derived.Test.YtpagdcobhbkabaaDoorFrS
import Derived.Deep.SlicePairs
import Derived.SizedLaws
import Derived.OpenShut
import Derived.Lib.SmallJoins
import Derived.Test.YtpagdcobhbkabaaDoorPostC
import Derived.Test.YtpagdcobhbkabaaDoorBring
import Derived.Test.YtpagdcobhbkabaaDoorFrKn
import Derived.Test.YtpagdcobhbkabaaDoorCards
import Derived.Test.YtpagdcobhbkabaaDoorTie
import Derived.WalkKit
import Derived.ProofKit
import Derived.Deep.DeepHandedRow
import Derived.Lib.LaidTab
import Derived.Test.YtpagdcobhbkabaaDoorPost
namespace Go.Proofs.YtpagdcobhbkabaaDoor
open Go.RowKit Go.Sort Go.Shelf Go.Deep Go.WideShapes

/-- Ranges that came in, in whatever memory. -/
def Rs (w : World) (A : Option Addr) (n c : Nat) (rs : List (Int × Int)) : Prop :=
  rs.length = n ∧ n ≤ c ∧ c ≤ maxLen ∧ n * 16 ≤ 140737488355328 ∧ ((A = none ∧ n = 0 ∧ c = 0) ∨ ∃ a, A = some a ∧ ∀ k (hk : k < rs.length), w.cell? (a.add (k * 2)) = some (.int .i64 rs[k].1) ∧ w.cell? (a.add (k * 2 + 1)) = some (.int .i64 rs[k].2))
theorem Rs.later {w w' : World} {A : Option Addr} {n c : Nat} {rs : List (Int × Int)} (h : Rs w A n c rs) (hb : Below w.heap.size w w') : Rs w' A n c rs := by
  obtain ⟨h1, h2, h3, h4, h5 | ⟨a, rfl, h6⟩⟩ := h
  · exact ⟨h1, h2, h3, h4, .inl h5⟩
  · refine ⟨h1, h2, h3, h4, .inr ⟨a, rfl, fun k hk => ?_⟩⟩
    obtain ⟨g1, g2⟩ := h6 k hk
    exact ⟨(hb.cell (block_lt_of_cell g1)).trans g1, (hb.cell (block_lt_of_cell g2)).trans g2⟩
theorem Rg.rs {w : World} {A : Option Addr} {n c : Nat} {rs : List (Int × Int)} (h : Rg w A n c rs) (hb : n * 16 ≤ 140737488355328) : Rs w A n c rs := by
  obtain ⟨h1, h2, h3, h5 | ⟨q, off, rfl, hq, h6⟩⟩ := h
  · exact ⟨h1, h2, h3, hb, .inl h5⟩
  · refine ⟨h1, h2, h3, hb, .inr ⟨_, rfl, fun k hk => ?_⟩⟩
    rw [add_lit0, add_lit0, ← Nat.add_assoc]
    exact h6 k hk
theorem OwnS.rg2 {w : World} {B : Nat} {v : Value} {l : List (Int × Int)} {e : TypeId} (h : OwnS encR e 2 w B v l) : ∃ A c, v = .slice A l.length c ∧ Rg w A l.length c l ∧ ∀ x, A = some x → B ≤ x.block := h.rg
theorem flat_len (rs : List (Int × Int)) : (rs.flatMap encR).length = rs.length * 2 := by
  induction rs with
  | nil => rfl
  | cons x t ih =>
    rw [List.flatMap_cons, List.length_append, ih, len_r, List.length_cons]
    omega
theorem run_apps {w : World} {B n c : Nat} {v : Value} {l rs : List (Int × Int)} {A : Option Addr} (ty : TypeId) (h : OwnS encR 36 2 w B v l) (hx : Rs w A n c rs) (hl : l = []) (hB : B ≤ w.heap.size) :
    ∃ v' w', (Builtin.append_ #[22, 22] ty #[v, .slice A n c]).run Tryd.prog w = .ok v' w' ∧ OwnS encR 36 2 w' B v' rs ∧ w.grownBy w' v.ownBlock := by
  obtain ⟨i0, hi, hz0, hz1, hz2⟩ := info_parts' range_info
  subst hl
  obtain ⟨h1, h2, h3, h4, ⟨rfl, rfl, rfl⟩ | ⟨a, rfl, h5⟩⟩ := hx
  · have hm : rs = [] := List.length_eq_zero_iff.1 h1
    subst hm
    exact ⟨v, w, run_append_owned_none w B 22 ty 36 i0 2 Tryd.underlying22 hi v _ _ h, h, World.grownBy.refl w _⟩
  · obtain ⟨v', w', e1, e2, e3, _, e5⟩ := run_append_own_at (P := Tryd.prog) (w := w) B 22 ty 36 i0 (.agg #[.int .i64 0, .int .i64 0]) 2 16 Tryd.underlying22 hi hz0 hz1 hz2 rfl (by omega) v 0 [] h a n c (rs.flatMap encR) (by rw [flat_len, h1]) (fun j u hu => by
        have hj : j < rs.length * 2 := by
          have := (List.getElem?_eq_some_iff.1 hu).1
          rwa [flat_len] at this
        have hj2 : j / 2 < rs.length := by omega
        have hm := flatS_at encR 2 len_r rs (j / 2) (j % 2) hj2 (by omega)
        rw [show j / 2 * 2 + j % 2 = j by omega, hu] at hm
        obtain ⟨g1, g2⟩ := h5 (j / 2) hj2
        rcases (show j % 2 = 0 ∨ j % 2 = 1 by omega) with hr | hr
        · rw [hr] at hm
          simp [encR] at hm
          rw [hm, ← g1, show j / 2 * 2 = j by omega]
        · rw [hr] at hm
          simp [encR] at hm
          rw [hm, ← g2, show j / 2 * 2 + 1 = j by omega]) (fun u hu => by
        obtain ⟨x, _, hx⟩ := List.mem_flatMap.1 hu
        exact one_r x u hx) (by unfold maxLen at h3 ⊢; omega) (by omega) hB
    refine ⟨v', w', e1, ?_, e3⟩
    unfold OwnS
    rw [Nat.zero_add, List.nil_append] at e2
    rw [h1]
    exact e2
theorem wpList_apps {w : World} {B n c : Nat} {v : Value} {l rs : List (Int × Int)} {A : Option Addr} {ops : Array Oper} {rest : List Oper} {o : Oper} {a : Act} {Q : Exit → Act → World → Prop} (hgd : o.guard = none) (s x : Operand)
    (ho : o.op = .call { callee := .builtin .append, args := #[s, x], argTypes := #[22, 22] }) (hs : a.eval s = v) (hx : a.eval x = .slice A n c) (h : OwnS encR 36 2 w B v l) (hu : Rs w A n c rs) (hl : l = []) (hB : B ≤ w.heap.size)
    (hK : ∀ v' w', OwnS encR 36 2 w' B v' rs → w.grownBy w' v.ownBlock → wpList Tryd.prog ops Q rest (a.put o.dst v') w') : wpList Tryd.prog ops Q (o :: rest) a w := by
  obtain ⟨v', w', e1, e2, e3⟩ := run_apps o.type h hu hl hB
  exact Lib.wpList_append_run w hgd s x _ _ ho v _ hs hx v' w' e1 (hK v' w' e2 e3)
theorem below_row {w w' : World} {row : Option Nat} (h : w.grownBy w' row) (hr : row = none) : Below w.heap.size w w' := by
  subst hr
  exact ⟨h.os, h.tape, h.output, h.size, fun k hk => h.block k hk (by simp)⟩
theorem OwnS.low_base {α : Type} {enc : α → List Value} {e : TypeId} {size : Nat} {w : World} {B B' : Nat} {v : Value} {l : List α} (h : OwnS enc e size w B v l) (hB : B' ≤ B) : OwnS enc e size w B' v l := by
  rcases h with ⟨h1, ⟨rfl, h2⟩ | ⟨g, cap, cur, rfl, h3, h4, h5⟩⟩
  · exact ⟨h1, .inl ⟨rfl, h2⟩⟩
  · exact ⟨h1, .inr ⟨g, cap, cur, rfl, by omega, h4, h5⟩⟩
/-- A copy of an ACK, in memory of its own. -/
def CopyPost (w0 : World) (a : Frm.Ak) (n : Nat) (e : Ending) (w' : World) : Prop :=
  ∃ A c, e = .returned (av a A n c) ∧ OwnS encR 36 2 w' w0.heap.size (.slice A n c) a.rs ∧ Below w0.heap.size w0 w'
set_option maxHeartbeats 2000000 in
set_option maxRecDepth 100000 in
theorem rcopy_any (a : Frm.Ak) (A : Option Addr) (n c : Nat) (w : World) (h : Rs w A n c a.rs) :
    Calls Tryd.prog 34 #[av a A n c] w (CopyPost w a n) := by
  have hn := h.1
  have hn' := Lib.hid hn
  have hb1 := laterA (Below.refl w.heap.size w) (.cells #[.int .i64 a.d, .slice A n c, .bool a.mkd, .int .i64 a.e0, .int .i64 a.e1, .int .i64 a.e2] 25)
  have hb2 := laterA hb1 (.cells #[.int .i64 0, .slice none 0 0, .bool false, .int .i64 0, .int .i64 0, .int .i64 0] 25)
  have hx1 := (Blk.new w 25 #[.int .i64 a.d, .slice A n c, .bool a.mkd, .int .i64 a.e0, .int .i64 a.e1, .int .i64 a.e2]).alloc (.cells #[.int .i64 0, .slice none 0 0, .bool false, .int .i64 0, .int .i64 0, .int .i64 0] 25)
  have hx2 := Blk.new2 w (.cells #[.int .i64 a.d, .slice A n c, .bool a.mkd, .int .i64 a.e0, .int .i64 a.e1, .int .i64 a.e2] 25) 25 #[.int .i64 0, .slice none 0 0, .bool false, .int .i64 0, .int .i64 0, .int .i64 0]
  have h2 := h.later hb2
  have hsz : ((w.alloc (.cells #[.int .i64 a.d, .slice A n c, .bool a.mkd, .int .i64 a.e0, .int .i64 a.e1, .int .i64 a.e2] 25)).alloc (.cells #[.int .i64 0, .slice none 0 0, .bool false, .int .i64 0, .int .i64 0, .int .i64 0] 25)).heap.size = w.heap.size + 2 := by simp
  unfold av
  clear h hb1
  replace hx1 := Lib.hid hx1
  replace hx2 := Lib.hid hx2
  replace hb2 := Lib.hid hb2
  replace h2 := Lib.hid h2
  replace hsz := Lib.hid hsz
  go_enter Tryd.func34, Tryd.ntmps34
  go_wp2_with (at_builtin; refine wpList_apps (rs := a.rs) (l := []) (A := A) (n := n) (c := c) (B := w.heap.size) rfl _ _ rfl rfl rfl (OwnS.nil _) h2.out rfl (by rw [hsz.out]; omega) ?_)
  intro v3 w5 hown hg
  have hb5 := below_row hg rfl
  obtain ⟨A3, c3, rfl, _, _⟩ := hown.rg
  rw [hn] at hown
  have hy1 := hx1.out.later hb5
  have hy2 := hx2.out.later hb5
  have hb6 := old_later2 hb2.out hb5 hb2.out.size
  have k1 := hy1.cell 1
  have q1 := hy1.frozen 1
  simp at k1
  have hy3 := hy1.set_ 1 (.slice A3 n c3)
  have hy4 : Blk (w5.setCell ⟨w.heap.size, 1, none⟩ (.slice A3 n c3)) (w.heap.size + 1) 25 _ := hy2.far (p := ⟨w.heap.size, 1, none⟩) (by simp) (.slice A3 n c3)
  have hown6 := hown.only (Only.set (F := (· = w.heap.size)) (p := ⟨w.heap.size, 1, none⟩) (Only.refl _ w5) rfl (.slice A3 n c3)) (fun g hg hf => by subst hf; exact OwnS.ne hown hy1 (by decide) hg)
  have hb7 := below_wr hb6 (Nat.le_refl _) 1 (.slice A3 n c3)
  obtain ⟨W6, hW6⟩ : ∃ W, w5.setCell ⟨w.heap.size, 1, none⟩ (.slice A3 n c3) = W := ⟨_, rfl⟩
  rw [hW6] at hy3 hy4 hown6 hb7
  have z0 := hy3.cell 0
  have z1 := hy3.cell 1
  have z2 := hy3.cell 2
  have z3 := hy3.cell 3
  have z4 := hy3.cell 4
  have z5 := hy3.cell 5
  have y0 := hy4.cell 0
  have y1 := hy4.cell 1
  have y2 := hy4.cell 2
  have y3 := hy4.cell 3
  have y4 := hy4.cell 4
  have y5 := hy4.cell 5
  have x0 := hy4.frozen 0
  have x1 := hy4.frozen 1
  have x2 := hy4.frozen 2
  have x3 := hy4.frozen 3
  have x4 := hy4.frozen 4
  have x5 := hy4.frozen 5
  simp at z0 z1 z2 z3 z4 z5 y0 y1 y2 y3 y4 y5
  clear hg hb5 hy1 hy2 hb6 hown hn
  replace hy3 := Lib.hid hy3
  replace hy4 := Lib.hid hy4
  replace hown6 := Lib.hid hown6
  replace hb7 := Lib.hid hb7
  rw [hn'.out]
  go_wp2_with fail
  refine bodyPost_ret (results_c1 rfl _ _ rfl (six_blk hy4.out) rfl) rfl ?_
  exact ⟨A3, c3, rfl, hown6.out.only six_only (fun g hg hf => by subst hf; exact OwnS.ne hown6.out hy4.out (by decide) hg), only_old hb7.out six_only (by rintro i rfl; exact Nat.le_succ _) hb7.out.size⟩
theorem rg_to {w : World} {n c : Nat} {A : Option Addr} {rs : List (Int × Int)} (h : Rg w A n c rs) {K : Nat} (hK : K ≤ n) :
    ∃ A2, (∀ W : World, (Instr.slice 22 (.slice A n c) none (some (.int .i64 (K : Int))) none).run Tryd.prog W = .ok (.slice A2 K c) W) ∧ Rg w A2 K c (rs.take K) ∧ (∀ B : Nat, (∀ x, A = some x → B ≤ x.block) → ∀ x, A2 = some x → B ≤ x.block) := by
  obtain ⟨h1, h2, h3, h4⟩ := h
  have he : Tryd.prog.elem 22 = 36 := by simp [Program.elem, Tryd.underlying22]
  have ht' : Tryd.prog.underlying 22 = some (.slice (Tryd.prog.elem 22)) := by rw [he]; exact Tryd.underlying22
  refine ⟨if c = 0 then A else A.map (·.add (0 * 2)), fun W => ?_, ⟨by rw [List.length_take, h1]; omega, by omega, h3, ?_⟩, ?_⟩
  · rw [run_slice_h W 22 _ _ _ ht' .i64 _ (by omega) (by omega), he, Tryd.sizeOf36 W]
    rfl
  · rcases h4 with ⟨rfl, rfl, rfl⟩ | ⟨q, off, rfl, hq, h5⟩
    · left; exact ⟨by split <;> rfl, by omega, rfl⟩
    · right
      refine ⟨q, off, ?_, hq, fun k hk => ?_⟩
      · split
        · rfl
        · rw [Nat.zero_mul, Option.map_some, add_lit0, Nat.add_zero]
      · rw [List.length_take] at hk
        rw [List.getElem_take]
        exact h5 k (by omega)
  · intro B hB x hx
    split at hx
    · exact hB x hx
    · cases A with
      | none => simp at hx
      | some y =>
        rw [Option.map_some] at hx
        injection hx with hx
        subst hx
        exact hB y rfl
/-- What cut answers: some ranges at most, in memory of its own. -/
def CutPost (w0 : World) (a : Frm.Ak) (m : Nat) (e : Ending) (w' : World) : Prop :=
  ∃ A c, e = .returned (av a A m c) ∧ Rg w' A m c (a.rs.take m) ∧ (∀ x, A = some x → w0.heap.size ≤ x.block) ∧ Below w0.heap.size w0 w'
set_option maxHeartbeats 2000000 in
set_option maxRecDepth 100000 in
theorem cut_any (a : Frm.Ak) (A : Option Addr) (n c m : Nat) (w : World) (h : Rs w A n c a.rs) (hm : min n 260 = m) :
    Calls Tryd.prog 12 #[av a A n c] w (CutPost w a m) := by
  have hmin : min (n : Int) 260 = (m : Int) := by omega
  have hmn : m ≤ n := by omega
  have hb1 := laterA (Below.refl w.heap.size w) (.cells #[.int .i64 a.d, .slice A n c, .bool a.mkd, .int .i64 a.e0, .int .i64 a.e1, .int .i64 a.e2] 25)
  have hb2 := laterA hb1 (.cells #[.int .i64 0, .slice none 0 0, .bool false, .int .i64 0, .int .i64 0, .int .i64 0] 25)
  have hx1 := (Blk.new w 25 #[.int .i64 a.d, .slice A n c, .bool a.mkd, .int .i64 a.e0, .int .i64 a.e1, .int .i64 a.e2]).alloc (.cells #[.int .i64 0, .slice none 0 0, .bool false, .int .i64 0, .int .i64 0, .int .i64 0] 25)
  have hx2 := Blk.new2 w (.cells #[.int .i64 a.d, .slice A n c, .bool a.mkd, .int .i64 a.e0, .int .i64 a.e1, .int .i64 a.e2] 25) 25 #[.int .i64 0, .slice none 0 0, .bool false, .int .i64 0, .int .i64 0, .int .i64 0]
  have hC := rcopy_any a A n c _ (h.later hb2)
  unfold av at hC ⊢
  clear h hb1 hm
  replace hx1 := Lib.hid hx1
  replace hx2 := Lib.hid hx2
  replace hb2 := Lib.hid hb2
  go_enter Tryd.func12, Tryd.ntmps12
  go_wp2_with fail
  with_reducible refine hC.mono ?_
  clear hC
  rintro e w1 ⟨A1, c1, rfl, hown, hb⟩
  simp only [av]
  obtain ⟨A1', c1', hA1, hrg, hfr⟩ := hown.rg
  injection hA1 with hA1 hA2 hA3
  subst hA1 hA2 hA3
  obtain ⟨A2, hsl, hrg2, hfr2⟩ := rg_to hrg (K := m) hmn
  have hfr3 := hfr2 _ hfr
  have hy1 := hx1.out.later hb
  have hy2 := hx2.out.later hb
  have hb3 := old_later2 hb2.out hb hb2.out.size
  have y0 := hy1.cell 0
  have y1 := hy1.cell 1
  have y2 := hy1.cell 2
  have y3 := hy1.cell 3
  have y4 := hy1.cell 4
  have y5 := hy1.cell 5
  have x0 := hy1.frozen 0
  have x1 := hy1.frozen 1
  have x2 := hy1.frozen 2
  have x3 := hy1.frozen 3
  have x4 := hy1.frozen 4
  have x5 := hy1.frozen 5
  simp at y0 y1 y2 y3 y4 y5
  have hz1 := six_blk (v0 := .int .i64 a.d) (v1 := .slice A1 a.rs.length c1) (v2 := .bool a.mkd) (v3 := .int .i64 a.e0) (v4 := .int .i64 a.e1) (v5 := .int .i64 a.e2) hy1
  have ho1 := six_only (w := w1) (B := w.heap.size) (v0 := .int .i64 a.d) (v1 := .slice A1 a.rs.length c1) (v2 := .bool a.mkd) (v3 := .int .i64 a.e0) (v4 := .int .i64 a.e1) (v5 := .int .i64 a.e2)
  have hfr4 : ∀ x, A2 = some x → w.heap.size + 2 ≤ x.block := fun x hx => by have := hfr3 x hx; simpa using this
  have hz2 := hy2.only ho1 (by simp)
  have hr2 := hrg2.only ho1 (fun x hx hf => by have := hfr4 x hx; omega)
  have hb4 := only_old hb3 ho1 (by rintro i rfl; exact Nat.le_refl _) hb3.size
  obtain ⟨W1, hW1⟩ : ∃ W, six w1 w.heap.size (.int .i64 a.d) (.slice A1 a.rs.length c1) (.bool a.mkd) (.int .i64 a.e0) (.int .i64 a.e1) (.int .i64 a.e2) = W := ⟨_, rfl⟩
  rw [hW1] at hz1 hz2 hr2 hb4
  unfold six at hW1
  have k1 := hz1.cell 1
  have q1 := hz1.frozen 1
  simp at k1
  have hz3 := hz1.set_ 1 (.slice A2 m c1)
  have ho2 : Only (· = w.heap.size) W1 (W1.setCell ⟨w.heap.size, 1, none⟩ (.slice A2 m c1)) := Only.set (F := (· = w.heap.size)) (p := ⟨w.heap.size, 1, none⟩) (Only.refl _ W1) rfl _
  have hz4 := hz2.only ho2 (by simp)
  have hr3 := hr2.only ho2 (fun x hx hf => by have := hfr4 x hx; omega)
  have hb5 := only_old hb4 ho2 (by rintro i rfl; exact Nat.le_refl _) hb4.size
  obtain ⟨W2, hW2⟩ : ∃ W, W1.setCell ⟨w.heap.size, 1, none⟩ (.slice A2 m c1) = W := ⟨_, rfl⟩
  rw [hW2] at hz3 hz4 hr3 hb5
  have r0 := hz3.cell 0
  have r1 := hz3.cell 1
  have r2 := hz3.cell 2
  have r3 := hz3.cell 3
  have r4 := hz3.cell 4
  have r5 := hz3.cell 5
  have s0 := hz4.cell 0
  have s1 := hz4.cell 1
  have s2 := hz4.cell 2
  have s3 := hz4.cell 3
  have s4 := hz4.cell 4
  have s5 := hz4.cell 5
  have t0 := hz4.frozen 0
  have t1 := hz4.frozen 1
  have t2 := hz4.frozen 2
  have t3 := hz4.frozen 3
  have t4 := hz4.frozen 4
  have t5 := hz4.frozen 5
  simp at r0 r1 r2 r3 r4 r5 s0 s1 s2 s3 s4 s5
  clear hown hrg hrg2 hfr hfr2 hfr3 hy1 hy2 hb3 hz1 hz2 ho1 hr2 hb4 ho2 hb
  replace hz3 := Lib.hid hz3
  replace hz4 := Lib.hid hz4
  replace hr3 := Lib.hid hr3
  replace hb5 := Lib.hid hb5
  replace hfr4 := Lib.hid hfr4
  go_wp2_with fail
  refine bodyPost_ret (results_c1 rfl _ _ rfl (six_blk hz4.out) rfl) rfl ?_
  exact ⟨A2, c1, rfl, hr3.out.only six_only (fun x hx hf => by have := hfr4.out x hx; omega), fun x hx => by have := hfr4.out x hx; omega, only_old hb5.out six_only (by rintro i rfl; exact Nat.le_succ _) hb5.out.size⟩
set_option maxHeartbeats 2000000 in
set_option maxRecDepth 100000 in
theorem rclone_any (A : Option Addr) (n c : Nat) (rs : List (Int × Int)) (w : World) (h : Rs w A n c rs) :
    Calls Tryd.prog 44 #[.slice A n c] w fun e w' => ∃ A' c', e = .returned (.slice A' n c') ∧ OwnS encR 36 2 w' w.heap.size (.slice A' n c') rs ∧ Below w.heap.size w w' := by
  have q22 : ∀ (w : World) (a : Option Addr) (n c n' c' : Nat), (binOp .eql 22 (.slice a n c) (.slice none n' c')).run Tryd.prog w = .ok (.bool a.isNone) w := fun w a n c n' c' => Lib.run_eql_slice_nil w _ _ a n c n' c' Tryd.underlying22
  have hn := h.1
  by_cases hA : A = none
  · subst hA
    obtain ⟨h1, h2, h3, h4, ⟨_, rfl, rfl⟩ | ⟨a, ha, _⟩⟩ := h
    · have hm : rs = [] := List.length_eq_zero_iff.1 h1
      subst hm
      go_enter Tryd.func44, Tryd.ntmps44
      go_wp2
      go_ret
      exact ⟨none, 0, rfl, OwnS.nil _, Below.refl _ _⟩
    · cases ha
  · obtain ⟨x, rfl⟩ : ∃ x, A = some x := by
      cases A with
      | none => exact absurd rfl hA
      | some x => exact ⟨x, rfl⟩
    clear hA
    have hl := laterA (Below.refl w.heap.size w) (.cells #[] 36)
    have h2 := h.later hl
    have hB := Blk.new w 36 #[]
    have hown : OwnS encR 36 2 (w.alloc (.cells #[] 36)) w.heap.size (.slice (some ⟨w.heap.size, 0, none⟩) 0 0) [] := ⟨rfl, .inr ⟨w.heap.size, 0, #[], rfl, Nat.le_refl _, hB, by simp, by simp [maxLen], by simp, by simp⟩⟩
    clear h hB
    have hn' := Lib.hid hn
    clear hn
    replace hl := Lib.hid hl
    replace h2 := Lib.hid h2
    replace hown := Lib.hid hown
    go_enter Tryd.func44, Tryd.ntmps44
    go_wp2_with (at_builtin; refine wpList_apps (rs := rs) (l := []) (A := some x) (n := n) (c := c) (B := w.heap.size) rfl _ _ rfl rfl rfl hown.out h2.out rfl (by simp) ?_)
    intro v3 w5 hown2 hg
    have hb := only_old hl.out (Only.of_row hg) (fun i hi => by
      have : i = w.heap.size := by simpa [Value.ownBlock] using hi.symm
      omega) hl.out.size
    obtain ⟨A3, c3, rfl, _, _⟩ := hown2.rg
    rw [hn'.out] at hown2 ⊢
    replace hown2 := Lib.hid hown2
    replace hb := Lib.hid hb
    clear hg
    go_wp2
    go_ret
    exact ⟨A3, c3, rfl, hown2.out, hb.out⟩
set_option maxHeartbeats 2000000 in
set_option maxRecDepth 100000 in
theorem fcopy_any (a : Frm.Ak) (A : Option Addr) (n c : Nat) (w : World) (h : Rs w A n c a.rs) :
    Calls Tryd.prog 22 #[av a A n c] w (CopyPost w a n) := by
  have hb1 := laterA (Below.refl w.heap.size w) (.cells #[.int .i64 a.d, .slice A n c, .bool a.mkd, .int .i64 a.e0, .int .i64 a.e1, .int .i64 a.e2] 25)
  have hb2 := laterA hb1 (.cells #[.int .i64 0, .slice none 0 0, .bool false, .int .i64 0, .int .i64 0, .int .i64 0] 25)
  have hx1 := (Blk.new w 25 #[.int .i64 a.d, .slice A n c, .bool a.mkd, .int .i64 a.e0, .int .i64 a.e1, .int .i64 a.e2]).alloc (.cells #[.int .i64 0, .slice none 0 0, .bool false, .int .i64 0, .int .i64 0, .int .i64 0] 25)
  have hx2 := Blk.new2 w (.cells #[.int .i64 a.d, .slice A n c, .bool a.mkd, .int .i64 a.e0, .int .i64 a.e1, .int .i64 a.e2] 25) 25 #[.int .i64 0, .slice none 0 0, .bool false, .int .i64 0, .int .i64 0, .int .i64 0]
  have hC := rclone_any A n c a.rs _ (h.later hb2)
  unfold av
  clear h hb1
  replace hx1 := Lib.hid hx1
  replace hx2 := Lib.hid hx2
  replace hb2 := Lib.hid hb2
  go_enter Tryd.func22, Tryd.ntmps22
  go_wp2_with fail
  with_reducible refine hC.mono ?_
  clear hC
  rintro e w5 ⟨A3, c3, rfl, hown, hb5⟩
  have hy1 := hx1.out.later hb5
  have hy2 := hx2.out.later hb5
  have hb6 := old_later2 hb2.out hb5 hb2.out.size
  have k1 := hy1.cell 1
  have q1 := hy1.frozen 1
  simp at k1
  have hy3 := hy1.set_ 1 (.slice A3 n c3)
  have hy4 : Blk (w5.setCell ⟨w.heap.size, 1, none⟩ (.slice A3 n c3)) (w.heap.size + 1) 25 _ := hy2.far (p := ⟨w.heap.size, 1, none⟩) (by simp) (.slice A3 n c3)
  have hown6 := hown.only (Only.set (F := (· = w.heap.size)) (p := ⟨w.heap.size, 1, none⟩) (Only.refl _ w5) rfl (.slice A3 n c3)) (fun g hg hf => by subst hf; exact OwnS.ne hown hy1 (by decide) hg)
  have hb7 := below_wr hb6 (Nat.le_refl _) 1 (.slice A3 n c3)
  obtain ⟨W6, hW6⟩ : ∃ W, w5.setCell ⟨w.heap.size, 1, none⟩ (.slice A3 n c3) = W := ⟨_, rfl⟩
  rw [hW6] at hy3 hy4 hown6 hb7
  have z0 := hy3.cell 0
  have z1 := hy3.cell 1
  have z2 := hy3.cell 2
  have z3 := hy3.cell 3
  have z4 := hy3.cell 4
  have z5 := hy3.cell 5
  have y0 := hy4.cell 0
  have y1 := hy4.cell 1
  have y2 := hy4.cell 2
  have y3 := hy4.cell 3
  have y4 := hy4.cell 4
  have y5 := hy4.cell 5
  have x0 := hy4.frozen 0
  have x1 := hy4.frozen 1
  have x2 := hy4.frozen 2
  have x3 := hy4.frozen 3
  have x4 := hy4.frozen 4
  have x5 := hy4.frozen 5
  simp at z0 z1 z2 z3 z4 z5 y0 y1 y2 y3 y4 y5
  clear hb5 hy1 hy2 hb6 hown
  replace hy3 := Lib.hid hy3
  replace hy4 := Lib.hid hy4
  replace hown6 := Lib.hid hown6
  replace hb7 := Lib.hid hb7
  go_wp2_with fail
  refine bodyPost_ret (results_c1 rfl _ _ rfl (six_blk hy4.out) rfl) rfl ?_
  have hown7 := hown6.out.only (six_only (v0 := .int .i64 a.d) (v1 := .slice A3 n c3) (v2 := .bool a.mkd) (v3 := .int .i64 a.e0) (v4 := .int .i64 a.e1) (v5 := .int .i64 a.e2)) (fun g hg hf => by subst hf; exact OwnS.ne hown6.out hy4.out (by decide) hg)
  exact ⟨A3, c3, rfl, hown7.low_base (by simp; omega), only_old hb7.out six_only (by rintro i rfl; exact Nat.le_succ _) hb7.out.size⟩
/-- The first ranges may be. -/
def pk (rs : List (Int × Int)) (k : Nat) : Bool := (rs.take k).all Frm.okR && Frm.gapsOk (rs.take k)
theorem gapsOk_snoc : ∀ (l : List (Int × Int)) (p x : Int × Int), Frm.gapsOk (l ++ [p] ++ [x]) = (Frm.gapsOk (l ++ [p]) && decide (x.2 ≤ p.1 - 2))
  | [], p, x => by simp [Frm.gapsOk]
  | [q], p, x => by simp [Frm.gapsOk]
  | q :: r :: t, p, x => by
    have ih := gapsOk_snoc (r :: t) p x
    simp only [List.cons_append, Frm.gapsOk] at ih ⊢
    rw [ih, Bool.and_assoc]
theorem pk_zero (rs : List (Int × Int)) : pk rs 0 = true := rfl
theorem pk_one {rs : List (Int × Int)} {x : Int × Int} (h : rs[0]? = some x) : pk rs 1 = Frm.okR x := by
  cases rs with
  | nil => simp at h
  | cons y t =>
    simp at h
    subst h
    simp [pk, Frm.gapsOk]
theorem pk_two {rs : List (Int × Int)} {k : Nat} {p x : Int × Int} (hp : rs[k]? = some p) (hx : rs[k + 1]? = some x) : pk rs (k + 1 + 1) = (pk rs (k + 1) && Frm.okR x && decide (x.2 ≤ p.1 - 2)) := by
  have e1 : rs.take (k + 1) = rs.take k ++ [p] := by rw [List.take_add_one, hp]; rfl
  have e2 : rs.take (k + 1 + 1) = rs.take k ++ [p] ++ [x] := by rw [List.take_add_one, hx, e1]; rfl
  unfold pk
  rw [e2, gapsOk_snoc, ← e1, List.all_append]
  simp only [List.all_cons, List.all_nil, Bool.and_true]
  cases (rs.take (k + 1)).all Frm.okR <;> cases Frm.okR x <;> cases Frm.gapsOk (rs.take (k + 1)) <;> cases decide (x.2 ≤ p.1 - 2) <;> rfl
theorem pk_end {rs : List (Int × Int)} {k : Nat} (h : rs.length ≤ k) : pk rs k = (rs.all Frm.okR && Frm.gapsOk rs) := by unfold pk; rw [List.take_of_length_le h]
theorem pk_at {rs : List (Int × Int)} {k : Nat} {p : Int × Int} (h : pk rs (k + 1) = true) (hp : rs[k]? = some p) : Frm.okR p = true := by
  unfold pk at h
  rw [List.take_add_one, hp, List.all_append] at h
  simp only [Bool.and_eq_true] at h
  simpa using h.1.2
theorem pk_false {rs : List (Int × Int)} {k : Nat} (h : pk rs k = false) (hk : k < rs.length) : pk rs (k + 1) = false := by
  cases k with
  | zero => rw [pk_zero] at h; cases h
  | succ k =>
    rw [pk_two (List.getElem?_eq_getElem (by omega)) (List.getElem?_eq_getElem hk), h]
    rfl
/-- The first marks may be. -/
def ek (a : Frm.Ak) : Nat → Bool
  | 0 => true
  | 1 => Frm.okE a.mkd a.e0
  | 2 => Frm.okE a.mkd a.e0 && Frm.okE a.mkd a.e1
  | _ => Frm.okE a.mkd a.e0 && Frm.okE a.mkd a.e1 && Frm.okE a.mkd a.e2
theorem chk_pk (a : Frm.Ak) : Frm.chk a = (decide (1 ≤ a.rs.length) && decide (a.rs.length ≤ 256) && Frm.isN a.d && pk a.rs a.rs.length && ek a 3) := by
  rw [pk_end (Nat.le_refl _)]
  unfold Frm.chk ek
  simp only [Bool.and_assoc]
theorem okR_parts (lo hi : Int) : Frm.okR (lo, hi) = (Frm.isN lo && Frm.isN hi && decide (lo ≤ hi)) := rfl
set_option maxHeartbeats 4000000 in
set_option maxRecDepth 100000 in
theorem rcheck_any (a : Frm.Ak) (A : Option Addr) (m c : Nat) (w : World) (hr : Rg w A m c a.rs) (hm : m ≤ 1000) :
    Calls Tryd.prog 16 #[av a A m c] w (ChkPost w a) := by
  have hlen := hr.1
  have hbx := Blk.new w 25 #[.int .i64 a.d, .slice A m c, .bool a.mkd, .int .i64 a.e0, .int .i64 a.e1, .int .i64 a.e2]
  have hlow := laterA (Below.refl w.heap.size w) (.cells #[.int .i64 a.d, .slice A m c, .bool a.mkd, .int .i64 a.e0, .int .i64 a.e1, .int .i64 a.e2] 25)
  have hr2 := hr.later hlow
  obtain ⟨Y, hY⟩ : ∃ Y, Frm.chk a = Y := ⟨_, rfl⟩
  have hYe : Y = (decide (1 ≤ m) && decide (m ≤ 256) && Frm.isN a.d && pk a.rs m && ek a 3) := by rw [← hY, chk_pk, hlen]
  unfold ChkPost av
  rw [hY]
  obtain ⟨R, hR⟩ : ∃ R : Int, (if Y = true then 0 else 2) = R := ⟨_, rfl⟩
  rw [hR]
  have hN := risn_any a.d
  obtain ⟨W, hW⟩ : ∃ W, w.alloc (.cells #[.int .i64 a.d, .slice A m c, .bool a.mkd, .int .i64 a.e0, .int .i64 a.e1, .int .i64 a.e2] 25) = W := ⟨_, rfl⟩
  rw [hW] at hbx hlow hr2
  have d0 := hbx.cell 0
  have d1 := hbx.cell 1
  simp at d0 d1
  clear hr hY
  replace hYe := Lib.hid hYe
  replace hbx := Lib.hid hbx
  replace hlow := Lib.hid hlow
  replace hr2 := Lib.hid hr2
  replace hR := Lib.hid hR
  by_cases h1 : 1 ≤ m
  · by_cases h2 : m ≤ 256
    · have k1 : (m : Int) ≥ 1 := by omega
      have k2 : (m : Int) ≤ 256 := by omega
      go_enter Tryd.func16, Tryd.ntmps16
      go_wp2_with fail
      with_reducible refine (hN _).mono ?_
      rintro e w1 ⟨rfl, rfl⟩
      go_wp2_with fail
      go_loopw [3, 4] (fun ok i wr => ∃ k : Nat, ok = .bool (Frm.isN a.d && pk a.rs k) ∧ i = .int .i64 (k : Int) ∧ k ≤ m ∧ Below w.heap.size w wr ∧ Blk wr w.heap.size 25 #[.int .i64 a.d, .slice A m c, .bool a.mkd, .int .i64 a.e0, .int .i64 a.e1, .int .i64 a.e2] ∧ Rg wr A m c a.rs) (fun _ i _ => m - (intOf i).toNat)
      case atStart => exact ⟨0, by rw [pk_zero, Bool.and_true], rfl, Nat.zero_le _, hlow.out, hbx.out, hr2.out⟩
      case round =>
        obtain ⟨k, rfl, rfl, hk, hl3, hb3, hr3⟩ := hrel
        have c1 := hb3.cell 1
        simp at c1
        by_cases hkm : k < m
        · have hki : (k : Int) < (m : Int) := by omega
          obtain ⟨q, off, rfl, hq, hcs⟩ := hr3.at (by omega)
          have hkl : k < a.rs.length := by omega
          obtain ⟨lo, hi, hx⟩ : ∃ lo hi, a.rs[k] = (lo, hi) := ⟨_, _, rfl⟩
          have hx? : a.rs[k]? = some (lo, hi) := by rw [List.getElem?_eq_getElem hkl, hx]
          obtain ⟨g0, g1⟩ := hcs k (lo, hi) hx?
          simp only at g0 g1
          have hwk : IntKind.i64.wrap ((k : Int) + 1) = (k : Int) + 1 := IntWalk.i64_in _ (by omega)
          have hlx := laterA (Below.refl wr.heap.size wr) (.cells #[.int .i64 lo, .int .i64 hi] 36)
          have hl4 := fun nq => laterNq (laterA hl3 (.cells #[.int .i64 lo, .int .i64 hi] 36)) nq
          have hb4 := fun nq => (hb3.later hlx).drewN nq
          have hr4 := fun nq => (hr3.later hlx).later (laterNq (Below.refl _ _) nq)

          cases hB : (Frm.isN a.d && pk a.rs k) with
          | false =>
            have hB2 : (Frm.isN a.d && pk a.rs (k + 1)) = false := by
              cases hd : Frm.isN a.d with
              | false => rfl
              | true =>
                rw [hd, Bool.true_and] at hB
                rw [pk_false hB hkl, Bool.and_false]
            replace hB2 := Lib.hid hB2
            replace hB := Lib.hid hB
            replace hl3 := Lib.hid hl3
            replace hb3 := Lib.hid hb3
            replace hr3 := Lib.hid hr3
            replace hl4 := Lib.hid hl4
            replace hb4 := Lib.hid hb4
            replace hr4 := Lib.hid hr4
            replace hcs := Lib.hid hcs
            replace hx := Lib.hid hx
            replace hx? := Lib.hid hx?
            replace hlx := Lib.hid hlx
            go_wp2_with fail
            go_quiet (fail)
            go_wp2_with fail
            refine ⟨⟨k + 1, by rw [hB2.out], by simp, by omega, hl4.out _, hb4.out _, hr4.out _⟩, ?_⟩
            simp only [intOf]
            omega

          | true =>
            obtain ⟨hd1, hpk⟩ := (Bool.and_eq_true _ _).mp hB
            have h1N := risn_any lo
            have h2N := risn_any hi
            have ho := okR_parts lo hi
            have hok2 : Frm.okR (lo, hi) = false → (Frm.isN a.d && pk a.rs (k + 1)) = false := fun hf => by
              cases k with
              | zero => rw [pk_one hx?, hf, Bool.and_false]
              | succ j => rw [pk_two (List.getElem?_eq_getElem (by omega)) hx?, hf, Bool.and_false, Bool.false_and, Bool.and_false]
            replace hB := Lib.hid hB
            replace hl3 := Lib.hid hl3
            replace hb3 := Lib.hid hb3
            replace hr3 := Lib.hid hr3
            replace hl4 := Lib.hid hl4
            replace hb4 := Lib.hid hb4
            replace hr4 := Lib.hid hr4
            replace hx := Lib.hid hx
            replace hx? := Lib.hid hx?
            replace hlx := Lib.hid hlx
            cases hi1 : Frm.isN lo with
            | false =>
              have hBf := hok2 (by rw [ho, hi1]; rfl)
              simp only [hi1] at h1N
              replace hBf := Lib.hid hBf
              replace h1N := Lib.hid h1N
              replace h2N := Lib.hid h2N
              clear ho hok2 hd1 hpk hcs
              go_wp2_with fail
              go_quiet (first | (go_at_call 40; with_reducible exact quiet_left (h1N.out _)) | (go_at_call 40; with_reducible exact quiet_left (h2N.out _)) | fail)
              go_wp2_with fail
              refine ⟨⟨k + 1, by rw [hBf.out], by simp, by omega, hl4.out _, hb4.out _, hr4.out _⟩, ?_⟩
              simp only [intOf]
              omega

            | true =>
              simp only [hi1] at h1N
              cases hi2 : Frm.isN hi with
              | false =>
                have hBf := hok2 (by rw [ho, hi1, hi2]; rfl)
                simp only [hi2] at h2N
                replace hBf := Lib.hid hBf
                replace h1N := Lib.hid h1N
                replace h2N := Lib.hid h2N
                clear ho hok2 hd1 hpk hcs
                go_wp2_with fail
                go_quiet (first | (go_at_call 40; with_reducible exact quiet_left (h1N.out _)) | (go_at_call 40; with_reducible exact quiet_left (h2N.out _)) | fail)
                go_wp2_with fail
                refine ⟨⟨k + 1, by rw [hBf.out], by simp, by omega, hl4.out _, hb4.out _, hr4.out _⟩, ?_⟩
                simp only [intOf]
                omega

              | true =>
                simp only [hi2] at h2N
                have i1 := (Frm.isN_iff lo).1 hi1
                have i2 := (Frm.isN_iff hi).1 hi2
                by_cases hle : lo ≤ hi
                · have hokt : Frm.okR (lo, hi) = true := by rw [ho, hi1, hi2, decide_eq_true hle]; rfl
                  replace h1N := Lib.hid h1N
                  replace h2N := Lib.hid h2N
                  by_cases hk0 : k = 0
                  · subst hk0
                    simp only [Nat.zero_mul, Nat.add_zero] at g0 g1
                    have hBt : (Frm.isN a.d && pk a.rs (0 + 1)) = true := by rw [pk_one hx?.out, hokt, hd1]; rfl
                    replace hBt := Lib.hid hBt
                    clear ho hok2 hd1 hpk hcs
                    go_wp2_with fail
                    go_quiet (first | (go_at_call 40; with_reducible exact quiet_left (h1N.out _)) | (go_at_call 40; with_reducible exact quiet_left (h2N.out _)) | fail)
                    go_wp2_with fail
                    refine ⟨⟨0 + 1, by rw [hBt.out], by simp, by omega, hl4.out _, hb4.out _, hr4.out _⟩, ?_⟩
                    simp only [intOf]
                    omega

                  · obtain ⟨j, rfl⟩ : ∃ j, k = j + 1 := ⟨k - 1, by omega⟩
                    have hkz : ¬ ((j : Int) + 1 = 0) := by omega
                    have hkz2 : ((j : Int) + 1 == 0) = false := by simpa using hkz
                    have hki2 : (j : Int) + 1 < (m : Int) := by omega
                    have hjm : j < m := by omega
                    have hjm2 : (j : Int) < (m : Int) := by omega
                    obtain ⟨lo2, hi2', hx2⟩ : ∃ lo hi, a.rs[j]'(by omega) = (lo, hi) := ⟨_, _, rfl⟩
                    have hx2? : a.rs[j]? = some (lo2, hi2') := by rw [List.getElem?_eq_getElem (by omega), hx2]
                    obtain ⟨f0, _⟩ := hcs j (lo2, hi2') hx2?
                    simp only at f0
                    have o2 := (Frm.okR_iff _).1 (pk_at hpk hx2?)
                    simp only at o2
                    have w1 : IntKind.i64.wrap ((j : Int) + 1 - 1) = j := by rw [IntWalk.i64_in _ (by omega)]; omega
                    have w2 : IntKind.i64.wrap (lo2 - 2) = lo2 - 2 := IntWalk.i64_in _ (by omega)
                    have w4 : IntKind.i64.wrap ((j : Int) + 1 + 1) = (j : Int) + 1 + 1 := IntWalk.i64_in _ (by omega)
                    have hcast : ((j + 1 : Nat) : Int) = (j : Int) + 1 := by omega
                    have y1 := (hlx.out.cell (p := ⟨q, off + j * 2, none⟩) hq).trans f0
                    have y2 := (hb3.out.later hlx.out).cell 1
                    simp at y2
                    have hp2 : (Frm.isN a.d && pk a.rs (j + 1 + 1)) = decide (hi ≤ lo2 - 2) := by rw [pk_two hx2? hx?.out, hokt, hd1, hpk]; rfl
                    replace hp2 := Lib.hid hp2
                    rw [hcast] at hwk hki ⊢
                    clear ho hok2 hd1 hpk hcs hx2 hx2? o2
                    by_cases hg : hi ≤ lo2 - 2
                    · have hBt := hp2.out
                      rw [decide_eq_true hg] at hBt
                      replace hBt := Lib.hid hBt
                      go_wp2_with fail
                      go_quiet (first | (go_at_call 40; with_reducible exact quiet_left (h1N.out _)) | (go_at_call 40; with_reducible exact quiet_left (h2N.out _)) | fail)
                      go_wp2_with fail
                      refine ⟨⟨j + 1 + 1, by rw [hBt.out], by simp, by omega, hl4.out _, hb4.out _, hr4.out _⟩, ?_⟩
                      simp only [intOf]
                      omega

                    · have hBt := hp2.out
                      rw [decide_eq_false hg] at hBt
                      replace hBt := Lib.hid hBt
                      go_wp2_with fail
                      go_quiet (first | (go_at_call 40; with_reducible exact quiet_left (h1N.out _)) | (go_at_call 40; with_reducible exact quiet_left (h2N.out _)) | fail)
                      go_wp2_with fail
                      refine ⟨⟨j + 1 + 1, by rw [hBt.out, decide_eq_false (Int.not_le.2 hg)], by simp, by omega, hl4.out _, hb4.out _, hr4.out _⟩, ?_⟩
                      simp only [intOf]
                      omega

                · have hBf := hok2 (by rw [ho, hi1, hi2, decide_eq_false hle]; rfl)
                  have hdf : decide (lo ≤ hi) = false := decide_eq_false hle
                  replace hBf := Lib.hid hBf
                  replace h1N := Lib.hid h1N
                  replace h2N := Lib.hid h2N
                  clear ho hok2 hd1 hpk hcs
                  go_wp2_with fail
                  go_quiet (first | (go_at_call 40; with_reducible exact quiet_left (h1N.out _)) | (go_at_call 40; with_reducible exact quiet_left (h2N.out _)) | fail)
                  go_wp2_with fail
                  refine ⟨⟨k + 1, by rw [hBf.out], by simp, by omega, hl4.out _, hb4.out _, hr4.out _⟩, ?_⟩
                  simp only [intOf]
                  omega

        · obtain rfl : m = k := by omega
          have hki : ¬ (m : Int) < (m : Int) := by omega
          have hlow5 := Lib.hid hl3
          have hbx5 := Lib.hid hb3
          obtain ⟨B, hB0⟩ : ∃ B, (Frm.isN a.d && pk a.rs m) = B := ⟨_, rfl⟩
          rw [hB0]
          replace hB0 := Lib.hid hB0

          clear hl3 hb3 hr3 d0 d1
          go_wp2_with fail
          have hmB := hlow5.out
          go_loopw [3, 6] (fun ok i wr => ∃ k : Nat, ok = .bool (B && ek a k) ∧ i = .int .i64 (k : Int) ∧ k ≤ 3 ∧ Below w.heap.size w wr ∧ Blk wr w.heap.size 25 #[.int .i64 a.d, .slice A m c, .bool a.mkd, .int .i64 a.e0, .int .i64 a.e1, .int .i64 a.e2]) (fun _ i _ => 3 - (intOf i).toNat)
          case atStart => exact ⟨0, by simp [ek], rfl, by omega, hlow5.out, hbx5.out⟩
          case round =>
            obtain ⟨k, rfl, rfl, hk, hl3, hb3⟩ := hrel
            by_cases hk3 : k < 3
            · have hki : (k : Int) < 3 := by omega
              have p2 := hb3.cell 2
              have p3 := hb3.cell 3
              have p4 := hb3.cell 4
              have p5 := hb3.cell 5
              simp at p2 p3 p4 p5

              cases hB : (B && ek a k) with
              | false =>
                have hB2 : (B && ek a (k + 1)) = false := by
                  rcases (show k = 0 ∨ k = 1 ∨ k = 2 by omega) with rfl | rfl | rfl
                  · simp only [ek, Bool.and_true] at hB
                    rw [hB]; rfl
                  · simp only [ek] at hB ⊢
                    rw [← Bool.and_assoc, hB]; rfl
                  · simp only [ek] at hB ⊢
                    rw [← Bool.and_assoc, hB]; rfl
                have hwk : IntKind.i64.wrap ((k : Int) + 1) = (k : Int) + 1 := IntWalk.i64_in _ (by omega)
                replace hB2 := Lib.hid hB2
                replace hB := Lib.hid hB
                replace hl3 := Lib.hid hl3
                replace hb3 := Lib.hid hb3
                go_wp2_with fail
                refine ⟨⟨k + 1, by rw [hB2.out], by simp, by omega, hl3.out, hb3.out⟩, ?_⟩
                simp only [intOf]
                omega
              | true =>
                obtain ⟨E, hE, hBE⟩ : ∃ E, wr.cell? ⟨w.heap.size, 3 + k, none⟩ = some (.int .i64 E) ∧ (B && ek a (k + 1)) = Frm.okE a.mkd E := by
                  rcases (show k = 0 ∨ k = 1 ∨ k = 2 by omega) with rfl | rfl | rfl
                  · simp only [ek, Bool.and_true] at hB
                    exact ⟨a.e0, p3, by rw [hB]; rfl⟩
                  · simp only [ek] at hB ⊢
                    exact ⟨a.e1, p4, by rw [← Bool.and_assoc, hB]; rfl⟩
                  · simp only [ek] at hB ⊢
                    exact ⟨a.e2, p5, by rw [← Bool.and_assoc, hB]; rfl⟩
                have hEN := risn_any E
                have hwk : IntKind.i64.wrap ((k : Int) + 1) = (k : Int) + 1 := IntWalk.i64_in _ (by omega)
                obtain ⟨mk, hmk⟩ : ∃ mk, a.mkd = mk := ⟨_, rfl⟩
                rw [hmk] at p2 hBE
                unfold Frm.okE at hBE
                clear p3 p4 p5 hmk
                replace hB := Lib.hid hB
                replace hl3 := Lib.hid hl3
                replace hb3 := Lib.hid hb3
                cases hi : Frm.isN E with
                | false =>
                  rw [hi, Bool.false_and] at hBE
                  replace hBE := Lib.hid hBE
                  simp only [hi] at hEN
                  go_wp2_with fail
                  with_reducible refine (hEN _).mono ?_
                  rintro e w2 ⟨rfl, rfl⟩
                  go_wp2_with fail
                  refine ⟨⟨k + 1, by rw [hBE.out], by simp, by omega, hl3.out, hb3.out⟩, ?_⟩
                  simp only [intOf]
                  omega
                | true =>
                  rw [hi, Bool.true_and] at hBE
                  simp only [hi] at hEN
                  cases mk with
                  | true =>
                    rw [Bool.true_or] at hBE
                    replace hBE := Lib.hid hBE
                    go_wp2_with fail
                    with_reducible refine (hEN _).mono ?_
                    rintro e w2 ⟨rfl, rfl⟩
                    go_wp2_with fail
                    refine ⟨⟨k + 1, by rw [hBE.out], by simp, by omega, hl3.out, hb3.out⟩, ?_⟩
                    simp only [intOf]
                    omega
                  | false =>
                    rw [Bool.false_or] at hBE
                    by_cases hz : E = 0
                    · subst hz
                      rw [decide_eq_true rfl] at hBE
                      replace hBE := Lib.hid hBE
                      go_wp2_with fail
                      with_reducible refine (hEN _).mono ?_
                      rintro e w2 ⟨rfl, rfl⟩
                      go_wp2_with fail
                      refine ⟨⟨k + 1, by rw [hBE.out], by simp, by omega, hl3.out, hb3.out⟩, ?_⟩
                      simp only [intOf]
                      omega
                    · rw [decide_eq_false hz] at hBE
                      replace hBE := Lib.hid hBE
                      have hzz : (E == 0) = false := by simpa using hz
                      go_wp2_with fail
                      with_reducible refine (hEN _).mono ?_
                      rintro e w2 ⟨rfl, rfl⟩
                      go_wp2_with fail
                      refine ⟨⟨k + 1, by rw [hBE.out], by simp, by omega, hl3.out, hb3.out⟩, ?_⟩
                      simp only [intOf]
                      omega

            · obtain rfl : k = 3 := by omega
              have hki : ¬ (3 : Int) < 3 := by omega

              have hY3 : Y = (B && ek a 3) := by rw [hYe.out, decide_eq_true h1, decide_eq_true h2, ← hB0.out]; rfl
              replace hY3 := Lib.hid hY3
              cases hB : (B && ek a 3) with
              | false =>
                replace hl3 := Lib.hid hl3
                replace hb3 := Lib.hid hb3
                replace hB := Lib.hid hB
                go_wp2
                go_ret
                exact ⟨by rw [← hR.out, hY3.out, hB.out]; rfl, hl3.out⟩
              | true =>
                replace hl3 := Lib.hid hl3
                replace hb3 := Lib.hid hb3
                replace hB := Lib.hid hB
                go_wp2
                go_ret
                exact ⟨by rw [← hR.out, hY3.out, hB.out]; rfl, hl3.out⟩

    · have k1 : (m : Int) ≥ 1 := by omega
      have k2 : ¬ (m : Int) ≤ 256 := by omega
      go_enter Tryd.func16, Tryd.ntmps16
      go_wp2_with fail
      go_loopw [3, 4] (fun ok i wr => ∃ k : Nat, ok = .bool (false) ∧ i = .int .i64 (k : Int) ∧ k ≤ m ∧ Below w.heap.size w wr ∧ Blk wr w.heap.size 25 #[.int .i64 a.d, .slice A m c, .bool a.mkd, .int .i64 a.e0, .int .i64 a.e1, .int .i64 a.e2] ∧ Rg wr A m c a.rs) (fun _ i _ => m - (intOf i).toNat)
      case atStart => exact ⟨0, rfl, rfl, Nat.zero_le _, hlow.out, hbx.out, hr2.out⟩
      case round =>
        obtain ⟨k, rfl, rfl, hk, hl3, hb3, hr3⟩ := hrel
        have c1 := hb3.cell 1
        simp at c1
        by_cases hkm : k < m
        · have hki : (k : Int) < (m : Int) := by omega
          obtain ⟨q, off, rfl, hq, hcs⟩ := hr3.at (by omega)
          have hkl : k < a.rs.length := by omega
          obtain ⟨lo, hi, hx⟩ : ∃ lo hi, a.rs[k] = (lo, hi) := ⟨_, _, rfl⟩
          have hx? : a.rs[k]? = some (lo, hi) := by rw [List.getElem?_eq_getElem hkl, hx]
          obtain ⟨g0, g1⟩ := hcs k (lo, hi) hx?
          simp only at g0 g1
          have hwk : IntKind.i64.wrap ((k : Int) + 1) = (k : Int) + 1 := IntWalk.i64_in _ (by omega)
          have hlx := laterA (Below.refl wr.heap.size wr) (.cells #[.int .i64 lo, .int .i64 hi] 36)
          have hl4 := fun nq => laterNq (laterA hl3 (.cells #[.int .i64 lo, .int .i64 hi] 36)) nq
          have hb4 := fun nq => (hb3.later hlx).drewN nq
          have hr4 := fun nq => (hr3.later hlx).later (laterNq (Below.refl _ _) nq)
          replace hl3 := Lib.hid hl3
          replace hb3 := Lib.hid hb3
          replace hr3 := Lib.hid hr3
          replace hl4 := Lib.hid hl4
          replace hb4 := Lib.hid hb4
          replace hr4 := Lib.hid hr4
          replace hcs := Lib.hid hcs
          replace hx := Lib.hid hx
          replace hx? := Lib.hid hx?
          replace hlx := Lib.hid hlx
          go_wp2_with fail
          go_quiet (fail)
          go_wp2_with fail
          refine ⟨⟨k + 1, rfl, by simp, by omega, hl4.out _, hb4.out _, hr4.out _⟩, ?_⟩
          simp only [intOf]
          omega

        · obtain rfl : m = k := by omega
          have hki : ¬ (m : Int) < (m : Int) := by omega
          have hlow5 := Lib.hid hl3
          have hbx5 := Lib.hid hb3

          clear hl3 hb3 hr3 d0 d1
          go_wp2_with fail
          have hmB := hlow5.out
          go_loopw [3, 6] (fun ok i wr => ∃ k : Nat, ok = .bool (false) ∧ i = .int .i64 (k : Int) ∧ k ≤ 3 ∧ Below w.heap.size w wr ∧ Blk wr w.heap.size 25 #[.int .i64 a.d, .slice A m c, .bool a.mkd, .int .i64 a.e0, .int .i64 a.e1, .int .i64 a.e2]) (fun _ i _ => 3 - (intOf i).toNat)
          case atStart => exact ⟨0, rfl, rfl, by omega, hlow5.out, hbx5.out⟩
          case round =>
            obtain ⟨k, rfl, rfl, hk, hl3, hb3⟩ := hrel
            by_cases hk3 : k < 3
            · have hki : (k : Int) < 3 := by omega
              have p2 := hb3.cell 2
              have p3 := hb3.cell 3
              have p4 := hb3.cell 4
              have p5 := hb3.cell 5
              simp at p2 p3 p4 p5

              have hwk : IntKind.i64.wrap ((k : Int) + 1) = (k : Int) + 1 := IntWalk.i64_in _ (by omega)
              replace hl3 := Lib.hid hl3
              replace hb3 := Lib.hid hb3
              go_wp2_with fail
              refine ⟨⟨k + 1, rfl, by simp, by omega, hl3.out, hb3.out⟩, ?_⟩
              simp only [intOf]
              omega

            · obtain rfl : k = 3 := by omega
              have hki : ¬ (3 : Int) < 3 := by omega

              have hYf : Y = false := by rw [hYe.out, decide_eq_false h2]; simp
              replace hYf := Lib.hid hYf
              replace hl3 := Lib.hid hl3
              replace hb3 := Lib.hid hb3
              go_wp2
              go_ret
              exact ⟨by rw [← hR.out, hYf.out]; rfl, hl3.out⟩

  · have k1 : ¬ (m : Int) ≥ 1 := by omega
    go_enter Tryd.func16, Tryd.ntmps16
    go_wp2_with fail
    go_loopw [3, 4] (fun ok i wr => ∃ k : Nat, ok = .bool (false) ∧ i = .int .i64 (k : Int) ∧ k ≤ m ∧ Below w.heap.size w wr ∧ Blk wr w.heap.size 25 #[.int .i64 a.d, .slice A m c, .bool a.mkd, .int .i64 a.e0, .int .i64 a.e1, .int .i64 a.e2] ∧ Rg wr A m c a.rs) (fun _ i _ => m - (intOf i).toNat)
    case atStart => exact ⟨0, rfl, rfl, Nat.zero_le _, hlow.out, hbx.out, hr2.out⟩
    case round =>
      obtain ⟨k, rfl, rfl, hk, hl3, hb3, hr3⟩ := hrel
      have c1 := hb3.cell 1
      simp at c1
      by_cases hkm : k < m
      · exact absurd hkm (by omega)
      · obtain rfl : m = k := by omega
        have hki : ¬ (m : Int) < (m : Int) := by omega
        have hlow5 := Lib.hid hl3
        have hbx5 := Lib.hid hb3

        clear hl3 hb3 hr3 d0 d1
        go_wp2_with fail
        have hmB := hlow5.out
        go_loopw [3, 6] (fun ok i wr => ∃ k : Nat, ok = .bool (false) ∧ i = .int .i64 (k : Int) ∧ k ≤ 3 ∧ Below w.heap.size w wr ∧ Blk wr w.heap.size 25 #[.int .i64 a.d, .slice A m c, .bool a.mkd, .int .i64 a.e0, .int .i64 a.e1, .int .i64 a.e2]) (fun _ i _ => 3 - (intOf i).toNat)
        case atStart => exact ⟨0, rfl, rfl, by omega, hlow5.out, hbx5.out⟩
        case round =>
          obtain ⟨k, rfl, rfl, hk, hl3, hb3⟩ := hrel
          by_cases hk3 : k < 3
          · have hki : (k : Int) < 3 := by omega
            have p2 := hb3.cell 2
            have p3 := hb3.cell 3
            have p4 := hb3.cell 4
            have p5 := hb3.cell 5
            simp at p2 p3 p4 p5

            have hwk : IntKind.i64.wrap ((k : Int) + 1) = (k : Int) + 1 := IntWalk.i64_in _ (by omega)
            replace hl3 := Lib.hid hl3
            replace hb3 := Lib.hid hb3
            go_wp2_with fail
            refine ⟨⟨k + 1, rfl, by simp, by omega, hl3.out, hb3.out⟩, ?_⟩
            simp only [intOf]
            omega

          · obtain rfl : k = 3 := by omega
            have hki : ¬ (3 : Int) < 3 := by omega

            have hYf : Y = false := by rw [hYe.out, decide_eq_false h1]; rfl
            replace hYf := Lib.hid hYf
            replace hl3 := Lib.hid hl3
            replace hb3 := Lib.hid hb3
            go_wp2
            go_ret
            exact ⟨by rw [← hR.out, hYf.out]; rfl, hl3.out⟩
/-- Has an ACK of the first ranges that number? -/
def inR2 (n : Int) (p : Int × Int) : Bool := decide (p.1 ≤ n) && decide (n ≤ p.2)
theorem has_any2 (a : Frm.Ak) (n : Int) : Frm.has a n = (Frm.chk a && a.rs.any (inR2 n)) := rfl
theorem any_take {rs : List (Int × Int)} {f : Int × Int → Bool} {k : Nat} {x : Int × Int} (hx : rs[k]? = some x) : (rs.take (k + 1)).any f = ((rs.take k).any f || f x) := by
  rw [List.take_add_one, hx, List.any_append]
  simp
theorem any_of_take {rs : List (Int × Int)} {f : Int × Int → Bool} {k : Nat} {x : Int × Int} (hx : rs[k]? = some x) (h : f x = true) : rs.any f = true := List.any_eq_true.2 ⟨x, List.mem_of_getElem? hx, h⟩
set_option maxHeartbeats 4000000 in
set_option maxRecDepth 100000 in
theorem rhas_any (a : Frm.Ak) (A : Option Addr) (m c : Nat) (n : Int) (w : World) (hr : Rg w A m c a.rs) (hm : m ≤ 1000) :
    Calls Tryd.prog 21 #[av a A m c, .int .i64 n] w fun e w' => e = .returned (.bool (Frm.has a n)) ∧ Below w.heap.size w w' := by
  have hlen := hr.1
  have hbx := Blk.new w 25 #[.int .i64 a.d, .slice A m c, .bool a.mkd, .int .i64 a.e0, .int .i64 a.e1, .int .i64 a.e2]
  have hlow := laterA (Below.refl w.heap.size w) (.cells #[.int .i64 a.d, .slice A m c, .bool a.mkd, .int .i64 a.e0, .int .i64 a.e1, .int .i64 a.e2] 25)
  have hr2 := hr.later hlow
  rw [has_any2]
  have hC := fun W (h : Rg W A m c a.rs) => rcheck_any a A m c W h hm
  unfold ChkPost av at hC
  unfold av
  obtain ⟨W, hW⟩ : ∃ W, w.alloc (.cells #[.int .i64 a.d, .slice A m c, .bool a.mkd, .int .i64 a.e0, .int .i64 a.e1, .int .i64 a.e2] 25) = W := ⟨_, rfl⟩
  rw [hW] at hbx hlow hr2
  have d1 := hbx.cell 1
  simp at d1
  clear hr
  cases hk : Frm.chk a with
  | false =>
    simp only [hk, Bool.false_eq_true, ↓reduceIte] at hC
    have hC2 := hC W hr2
    rw [Bool.false_and]
    have p0 := hbx.cell 0
    have p2 := hbx.cell 2
    have p3 := hbx.cell 3
    have p4 := hbx.cell 4
    have p5 := hbx.cell 5
    simp at p0 p2 p3 p4 p5
    clear hC hk
    replace hbx := Lib.hid hbx
    replace hlow := Lib.hid hlow
    replace hr2 := Lib.hid hr2
    replace hC2 := Lib.hid hC2
    by_cases hm0 : 0 < m
    · have hm1 : (0 : Int) < (m : Int) := by omega
      go_enter Tryd.func21, Tryd.ntmps21
      go_wp2_with fail
      refine wp_loop_rounds 1 ?_
      rw [rounds_succ]
      go_wp2_with fail
      with_reducible refine hC2.out.mono ?_
      rintro e w1 ⟨rfl, hb⟩
      have hb2 := old_later2 hlow.out hb hlow.out.size
      replace hb2 := Lib.hid hb2
      clear hb
      go_wp2
      go_ret
      exact ⟨rfl, hb2.out⟩
    · have hm1 : ¬ (0 : Int) < (m : Int) := by omega
      go_enter Tryd.func21, Tryd.ntmps21
      go_wp2_with fail
      refine wp_loop_rounds 1 ?_
      rw [rounds_succ]
      go_wp2
      go_ret
      exact ⟨rfl, hlow.out⟩
  | true =>
    simp only [hk, ↓reduceIte] at hC
    rw [Bool.true_and]
    clear hk
    replace hbx := Lib.hid hbx
    replace hlow := Lib.hid hlow
    replace hr2 := Lib.hid hr2
    replace hC := Lib.hid hC
    go_enter Tryd.func21, Tryd.ntmps21
    go_wp2_with fail
    go_loopw [5] (fun i wr => ∃ k : Nat, i = .int .i64 (k : Int) ∧ k ≤ m ∧ (a.rs.take k).any (inR2 n) = false ∧ Below w.heap.size w wr ∧ Blk wr w.heap.size 25 #[.int .i64 a.d, .slice A m c, .bool a.mkd, .int .i64 a.e0, .int .i64 a.e1, .int .i64 a.e2] ∧ Rg wr A m c a.rs) (fun i _ => m - (intOf i).toNat)
    case atStart => exact ⟨0, rfl, Nat.zero_le _, rfl, hlow.out, hbx.out, hr2.out⟩
    case round =>
      obtain ⟨k, rfl, hkm, hno, hl3, hb3, hr3⟩ := hrel
      have p0 := hb3.cell 0
      have p1 := hb3.cell 1
      have p2 := hb3.cell 2
      have p3 := hb3.cell 3
      have p4 := hb3.cell 4
      have p5 := hb3.cell 5
      simp at p0 p1 p2 p3 p4 p5
      by_cases hlt : k < m
      · have hki : (k : Int) < (m : Int) := by omega
        have hC2 := hC.out wr hr3
        have hwk : IntKind.i64.wrap ((k : Int) + 1) = (k : Int) + 1 := IntWalk.i64_in _ (by omega)
        obtain ⟨lo, hi, hx⟩ : ∃ lo hi, a.rs[k]'(by omega) = (lo, hi) := ⟨_, _, rfl⟩
        have hx? : a.rs[k]? = some (lo, hi) := by rw [List.getElem?_eq_getElem (by omega), hx]
        have hstep := any_take (f := inR2 n) hx?
        have hfull := any_of_take (f := inR2 n) hx?
        rw [hno, Bool.false_or] at hstep
        unfold inR2 at hstep hfull
        simp only at hstep hfull
        replace hl3 := Lib.hid hl3
        replace hb3 := Lib.hid hb3
        replace hr3 := Lib.hid hr3
        replace hno := Lib.hid hno
        replace hstep := Lib.hid hstep
        replace hfull := Lib.hid hfull
        replace hx := Lib.hid hx
        replace hx? := Lib.hid hx?
        go_wp2_with fail
        with_reducible refine hC2.mono ?_
        clear hC2 p0 p1 p2 p3 p4 p5
        rintro e w1 ⟨rfl, hb⟩
        have hl4 := old_later2 hl3.out hb hl3.out.size
        have hb4 := hb3.out.later hb
        have hr4 := hr3.out.later hb
        obtain ⟨q, off, rfl, hq, hcs⟩ := hr4.at (by omega)
        obtain ⟨g0, g1⟩ := hcs k (lo, hi) hx?.out
        simp only at g0 g1
        have p1 := hb4.cell 1
        simp at p1
        clear hcs hb hr3 hl3 hb3
        replace hl4 := Lib.hid hl4
        replace hb4 := Lib.hid hb4
        replace hr4 := Lib.hid hr4
        by_cases h1 : lo ≤ n
        · have h1' : n ≥ lo := h1
          by_cases h2 : n ≤ hi
          · have hT := hfull.out (by rw [decide_eq_true h1, decide_eq_true h2]; rfl)
            replace hT := Lib.hid hT
            go_wp2
            go_ret
            exact ⟨by have := hT.out; unfold inR2; rw [this]; rfl, hl4.out⟩
          · have hS := hstep.out
            rw [decide_eq_false h2, Bool.and_false] at hS
            replace hS := Lib.hid hS
            go_wp2_with fail
            refine ⟨⟨k + 1, by simp, by omega, hS.out, hl4.out, hb4.out, hr4.out⟩, ?_⟩
            simp only [intOf]
            omega
        · have h1' : ¬ n ≥ lo := h1
          have hS := hstep.out
          rw [decide_eq_false h1, Bool.false_and] at hS
          replace hS := Lib.hid hS
          go_wp2_with fail
          refine ⟨⟨k + 1, by simp, by omega, hS.out, hl4.out, hb4.out, hr4.out⟩, ?_⟩
          simp only [intOf]
          omega
      · obtain rfl : k = m := by omega
        have hki : ¬ (k : Int) < (k : Int) := by omega
        have hF : a.rs.any (inR2 n) = false := by rwa [List.take_of_length_le (by omega)] at hno
        replace hF := Lib.hid hF
        replace hl3 := Lib.hid hl3
        replace hb3 := Lib.hid hb3
        replace hr3 := Lib.hid hr3
        replace hno := Lib.hid hno
        go_wp2
        go_ret
        exact ⟨by rw [hF.out]; rfl, hl3.out⟩
/-- A block of integers as a slice of the call's own. -/
theorem oi_blk {w : World} {B g k : Nat} {ys : List Int} {cs : Array Value} (h : Blk w g 3 cs) (hc : cs.toList = ys.map (Value.int .i64)) (hk : ys.length = k) (hB : B ≤ g) (hm : k ≤ 10000) : OI w B (.slice (some ⟨g, 0, none⟩) k k) ys := by
  subst hk
  have hs : cs.size = ys.length := by rw [← Array.length_toList, hc, List.length_map]
  exact ⟨by simp, .inr ⟨g, ys.length, cs, rfl, hB, h, Nat.le_refl _, by unfold maxLen; omega, by omega, by rw [hc, List.take_of_length_le (by simp)]⟩⟩
theorem run_ois {w : World} {B h k : Nat} {ys : List Int} {v : Value} {l : List Int} {cs : Array Value} (ty : TypeId) (hv : OI w B v l) (hu : Blk w h 3 cs) (hc : cs.toList = ys.map (Value.int .i64)) (hk : ys.length = k) (hl : l.length + k ≤ 100000) (hB : B ≤ w.heap.size) :
    ∃ v' w', (Builtin.append_ #[40, 40] ty #[v, .slice (some ⟨h, 0, none⟩) k k]).run Tryd.prog w = .ok v' w' ∧ OI w' B v' (l ++ ys) ∧ w.grownBy w' v.ownBlock := by
  obtain ⟨i0, hi, hz0, hz1, hz2⟩ := info_parts' int_info
  obtain ⟨v', w', e1, e2, e3, _, e5⟩ := run_append_own_at (P := Tryd.prog) (w := w) B 40 ty 3 i0 (.int .i64 0) 1 8 Tryd.underlying40 hi hz0 hz1 hz2 rfl (by omega) v l.length (l.map (Value.int .i64)) hv ⟨h, 0, none⟩ k k (ys.map (Value.int .i64)) (by rw [List.length_map, hk, Nat.mul_one]) (fun j u hu' => by
    rw [add_lit0, Nat.zero_add, hu.cell, ← Array.getElem?_toList, hc]
    exact hu') (fun u hu' => by
    obtain ⟨x, _, rfl⟩ := List.mem_map.1 hu'
    rfl) (by unfold maxLen; omega) (by omega) hB
  refine ⟨v', w', e1, ?_, e3⟩
  unfold OI
  rw [List.length_append, List.map_append, hk]
  exact e2
theorem wpList_ois {w : World} {B h k : Nat} {ys : List Int} {v : Value} {l : List Int} {cs : Array Value} {ops : Array Oper} {rest : List Oper} {o : Oper} {a : Act} {Q : Exit → Act → World → Prop} (hgd : o.guard = none) (s x : Operand)
    (ho : o.op = .call { callee := .builtin .append, args := #[s, x], argTypes := #[40, 40] }) (hs : a.eval s = v) (hx : a.eval x = .slice (some ⟨h, 0, none⟩) k k) (hv : OI w B v l) (hu : Blk w h 3 cs) (hc : cs.toList = ys.map (Value.int .i64)) (hk : ys.length = k) (hl : l.length + k ≤ 100000) (hB : B ≤ w.heap.size)
    (hK : ∀ v' w', OI w' B v' (l ++ ys) → w.grownBy w' v.ownBlock → wpList Tryd.prog ops Q rest (a.put o.dst v') w') : wpList Tryd.prog ops Q (o :: rest) a w := by
  obtain ⟨v', w', e1, e2, e3⟩ := run_ois o.type hv hu hc hk hl hB
  exact Lib.wpList_append_run w hgd s x _ _ ho v _ hs hx v' w' e1 (hK v' w' e2 e3)
theorem step_ois {w : World} {B h k : Nat} {ys : List Int} {v : Value} {l : List Int} {cs : Array Value} {ops : Array Oper} {o : Oper} {a : Act} {K : Act → World → Prop} {Q : Exit → Act → World → Prop} {E : Prop} (hgd : o.guard = none) (s x : Operand)
    (ho : o.op = .call { callee := .builtin .append, args := #[s, x], argTypes := #[40, 40] }) (hs : a.eval s = v) (hx : a.eval x = .slice (some ⟨h, 0, none⟩) k k) (hv : OI w B v l) (hu : Blk w h 3 cs) (hc : cs.toList = ys.map (Value.int .i64)) (hk : ys.length = k) (hl : l.length + k ≤ 100000) (hB : B ≤ w.heap.size)
    (hK : ∀ v' w', OI w' B v' (l ++ ys) → w.grownBy w' v.ownBlock → K (a.put o.dst v') w') :
    if Region.wanted o (yielded ops a.tmps) = true then Oper.wp Tryd.prog o a w K Q else E := by
  have hw : Region.wanted o (yielded ops a.tmps) = true := by simp [Region.wanted, hgd]
  rw [if_pos hw]
  obtain ⟨v', w', hr, h2, h3⟩ := run_ois o.type hv hu hc hk hl hB
  unfold Oper.wp execOp
  simp only [ho, resolve, invoke, builtin, Sem.run_bind, Sem.run_pure, Result.andThen_ok, List.map_toArray, List.map_cons, List.map_nil, hs, hx, hr]
  exact hK v' w' h2 h3
theorem OI.row {w w' : World} {B g : Nat} {v : Value} {l : List Int} {t : TypeId} {cs : Array Value} (h : OI w B v l) (hg : w.grownBy w' v.ownBlock) (hk : Blk w g t cs) (hne : 3 ≠ t) : Blk w' g t cs :=
  (hg.block g hk.lt (fun he => by
    rcases h.2 with ⟨rfl, _⟩ | ⟨g', cap, cur, rfl, _, hh, _⟩
    · simp [Value.ownBlock] at he
    · have : g' = g := by simpa [Value.ownBlock] using he.symm
      subst this
      exact Blk.ne_ (t := 3) hh hk hne rfl)).trans hk
theorem OI.row_low {w0 w w' : World} {B : Nat} {v : Value} {l : List Int} (h : OI w B v l) (hg : w.grownBy w' v.ownBlock) (hb : Below w0.heap.size w0 w) (hB : w0.heap.size ≤ B) : Below w0.heap.size w0 w' :=
  only_old hb (Only.of_row hg) (fun i hi => Nat.le_trans hB (World.ownsRow.lt h i hi).1) hb.size
theorem OI.row_rg {w w' : World} {B : Nat} {v : Value} {l : List Int} {A : Option Addr} {n c : Nat} {rs : List (Int × Int)} (h : OI w B v l) (hg : w.grownBy w' v.ownBlock) (hr : Rg w A n c rs) (hA : ∀ x, A = some x → x.block < B) : Rg w' A n c rs :=
  hr.only (Only.of_row hg) (fun x hx hf => by have := hA x hx; have := (World.ownsRow.lt h x.block hf).1; omega)
theorem OI.slice {w : World} {B : Nat} {v : Value} {l : List Int} (h : OI w B v l) : ∃ A n c, v = .slice A n c := by
  rcases h.2 with ⟨rfl, _⟩ | ⟨g, cap, cur, rfl, _⟩
  · exact ⟨_, _, _, rfl⟩
  · exact ⟨_, _, _, rfl⟩
/-- The numbers of an ACK, in the order of the document's list. -/
def bl (a : Frm.Ak) (k : Nat) : List Int := (if a.mkd then 3 else 2) :: (a.rs.headD (0, 0)).2 :: a.d :: ((a.rs.length : Int) - 1) :: seqW true (gpn a.rs k)
theorem bl_len (a : Frm.Ak) (k : Nat) : (bl a k).length ≤ 4 + 2 * k := by
  have := seqW_len true (gpn a.rs k)
  rw [gpn_length] at this
  simp only [bl, List.length_cons]
  omega
theorem bl_succ (a : Frm.Ak) (k : Nat) (hk : 0 < k) : bl a (k + 1) = bl a k ++ [(gpk a.rs k).1, wdW (gpk a.rs k)] := by
  have he : (gpn a.rs k).isEmpty = false := by
    cases hg : gpn a.rs k with
    | nil => have := gpn_length a.rs k; rw [hg] at this; simp at this; omega
    | cons => rfl
  unfold bl
  rw [gpn_succ, seqW_snoc, he]
  rfl
def bm (a : Frm.Ak) : List Int := bl a a.rs.length ++ if a.mkd then [a.e0, a.e1, a.e2] else []
theorem bm_putL {a : Frm.Ak} (h : Frm.chk a = true) : putL [] (bm a) = (Frm.bytes a).1 := by
  rw [← bytes_putL h a.rs.length rfl]
  have e : bm a = (if a.mkd then 3 else 2) :: ([(a.rs.headD (0, 0)).2, a.d, (a.rs.length : Int) - 1] ++ seqW true (gpn a.rs a.rs.length) ++ if a.mkd then [a.e0, a.e1, a.e2] else []) := by simp [bm, bl]
  rw [e]
  have e1 : ∀ ns, putL [] ((if a.mkd then 3 else 2) :: ns) = putL [if a.mkd then 3 else 2] ns := fun ns => by
    show putL (Oct.put [] (if a.mkd then 3 else 2)).1 ns = _
    cases a.mkd <;> rfl
  rw [e1, putL_append, putL_append]
theorem bm_len {a : Frm.Ak} (h : Frm.chk a = true) : (bm a).length ≤ 600 := by
  have h1 := bl_len a a.rs.length
  obtain ⟨⟨p, t, hp, ht⟩, _⟩ := Frm.chk_parts h
  rw [hp] at h1
  simp only [List.length_cons] at h1
  unfold bm
  rw [List.length_append, hp, List.length_cons]
  split <;> simp <;> omega
set_option maxHeartbeats 4000000 in
set_option maxRecDepth 100000 in
theorem rbytes_any (a : Frm.Ak) (A : Option Addr) (m c : Nat) (w : World) (hr : Rg w A m c a.rs) (hm : m ≤ 1000) :
    Calls Tryd.prog 14 #[av a A m c] w (BytesPost w (Frm.bytes a)) := by
  have hlen := hr.1
  have hbx := Blk.new w 25 #[.int .i64 a.d, .slice A m c, .bool a.mkd, .int .i64 a.e0, .int .i64 a.e1, .int .i64 a.e2]
  have hlow := laterA (Below.refl w.heap.size w) (.cells #[.int .i64 a.d, .slice A m c, .bool a.mkd, .int .i64 a.e0, .int .i64 a.e1, .int .i64 a.e2] 25)
  have hr2 := hr.later hlow
  have hC := rcheck_any a A m c _ hr2 hm
  unfold ChkPost at hC
  unfold av at hC ⊢
  obtain ⟨W, hW⟩ : ∃ W, w.alloc (.cells #[.int .i64 a.d, .slice A m c, .bool a.mkd, .int .i64 a.e0, .int .i64 a.e1, .int .i64 a.e2] 25) = W := ⟨_, rfl⟩
  rw [hW] at hbx hlow hr2 hC
  have p0 := hbx.cell 0
  have p1 := hbx.cell 1
  have p2 := hbx.cell 2
  have p3 := hbx.cell 3
  have p4 := hbx.cell 4
  have p5 := hbx.cell 5
  simp at p0 p1 p2 p3 p4 p5
  clear hr
  cases hk : Frm.chk a with
  | false =>
    simp only [hk, Bool.false_eq_true, ↓reduceIte] at hC
    have hY : Frm.bytes a = ([], 2) := by unfold Frm.bytes; rw [hk]; rfl
    rw [hY]
    clear hk hY
    replace hbx := Lib.hid hbx
    replace hlow := Lib.hid hlow
    replace hr2 := Lib.hid hr2
    go_enter Tryd.func14, Tryd.ntmps14
    go_wp2_with fail
    with_reducible refine hC.mono ?_
    rintro e w1 ⟨rfl, hb⟩
    have hb2 := old_later2 hlow.out hb hlow.out.size
    replace hb2 := Lib.hid hb2
    clear hb hC
    go_wp2_with fail
    refine bodyPost_ret (results_tmp2 rfl _ _) rfl ?_
    exact ⟨0, none, 0, rfl, ⟨rfl, Nat.le_refl _, by simp [maxLen], .inl ⟨rfl, rfl, rfl⟩⟩, hb2.out⟩
  | true =>
    simp only [hk, ↓reduceIte] at hC
    obtain ⟨L, hY⟩ : ∃ L, Frm.bytes a = (L, 0) := ⟨(Frm.bytes a).1, by unfold Frm.bytes; rw [if_pos hk]⟩
    have hL := bm_putL hk
    have hbm := bm_len hk
    rw [hY] at hL ⊢
    simp only at hL
    obtain ⟨⟨pp, tt, hp, ht⟩, hd, hall, hgaps, _⟩ := Frm.chk_parts hk
    have hm1 : 0 < m := by rw [← hlen, hp]; simp
    have hm2 : m ≤ 256 := by rw [← hlen, hp]; simp; omega
    obtain ⟨q, off, rfl, hq, hcs⟩ := hr2.at hm1
    obtain ⟨lo0, hi0⟩ := pp
    have hx0 : a.rs[0]? = some (lo0, hi0) := by rw [hp]; rfl
    have hok0 := (Frm.okR_iff _).1 (List.all_eq_true.1 hall _ (List.mem_of_getElem? hx0))
    simp only at hok0
    have hbl1 : bl a 1 = [if a.mkd then 3 else 2, hi0, a.d, (m : Int) - 1, hi0 - lo0] := by
      have e0 : gpk a.rs 0 = (0, (lo0, hi0)) := by unfold gpk; rw [hx0]; rfl
      have e1 : gpn a.rs 1 = [(0, (lo0, hi0))] := by rw [gpn_succ, e0]; rfl
      unfold bl
      rw [e1, hlen, hp]
      simp only [List.headD_cons, seqW]
      rw [wdW_ok (x := (0, (lo0, hi0))) (by rw [Frm.okR_iff]; exact hok0)]
    have hw0 : IntKind.i64.wrap (hi0 - lo0) = hi0 - lo0 := IntWalk.i64_in _ (by omega)
    have hwm : IntKind.i64.wrap ((m : Int) - 1) = (m : Int) - 1 := IntWalk.i64_in _ (by omega)
    have hmi : (0 : Int) < (m : Int) := by omega
    unfold bm at hL hbm
    rw [hlen] at hL hbm
    clear hk hp hd hY
    cases hmk : a.mkd with
    | false =>
      rw [hmk] at hbl1 p2 hL hbm hC hW hbx
      simp only [Bool.false_eq_true, ↓reduceIte, List.append_nil] at hbl1 hL hbm
      replace hbx := Lib.hid hbx
      replace hlow := Lib.hid hlow
      replace hcs := Lib.hid hcs
      replace hx0 := Lib.hid hx0
      replace hok0 := Lib.hid hok0
      replace hbl1 := Lib.hid hbl1
      replace hL := Lib.hid hL
      replace hbm := Lib.hid hbm
      replace hall := Lib.hid hall
      replace hr2 := Lib.hid hr2
      replace hlen := Lib.hid hlen
      replace hmk := Lib.hid hmk
      go_enter Tryd.func14, Tryd.ntmps14
      go_wp2_with fail
      with_reducible refine hC.mono ?_
      clear hC p0 p1 p2 p3 p4 p5
      rintro e w1 ⟨rfl, hb⟩
      have hr3 := hr2.out.later hb
      have hbx3 := hbx.out.later hb
      have hlow3 := old_later2 hlow.out hb hlow.out.size
      have g0 := (hb.cell (p := ⟨q, off + 0 * 2, none⟩) hq).trans (hcs.out 0 _ hx0.out).1
      have g1 := (hb.cell (p := ⟨q, off + 0 * 2 + 1, none⟩) hq).trans (hcs.out 0 _ hx0.out).2
      have p0 := hbx3.cell 0
      have p1 := hbx3.cell 1
      have p2 := hbx3.cell 2
      simp at p0 p1 p2
      simp only [Nat.zero_mul, Nat.add_zero] at g0 g1
      have hl2 := laterA (Below.refl w1.heap.size w1) (.cells #[.int .i64 lo0, .int .i64 hi0] 36)
      have hr4 := hr3.later hl2
      have hbx4 := hbx3.later hl2
      have hlow4 := old_later2 hlow3 hl2 hlow3.size
      obtain ⟨W2, hW2⟩ : ∃ W, w1.alloc (.cells #[.int .i64 lo0, .int .i64 hi0] 36) = W := ⟨_, rfl⟩
      have hxr := Blk.new w1 36 #[.int .i64 lo0, .int .i64 hi0]
      rw [hW2] at hr4 hbx4 hlow4 hxr hl2
      have x0 := hxr.cell 0
      have x1 := hxr.cell 1
      have r0 := hbx4.cell 0
      have r1 := hbx4.cell 1
      simp at x0 x1 r0 r1
      have hl3 := laterA (Below.refl W2.heap.size W2) (.cells #[.int .i64 2, .int .i64 hi0, .int .i64 a.d, .int .i64 ((m : Int) - 1), .int .i64 (hi0 - lo0)] 3)
      have hr5 := hr4.later hl3
      have hbx5 := hbx4.later hl3
      have hlow5 := old_later2 hlow4 hl3 hlow4.size
      have hOI := oi_blk (B := W2.heap.size) (ys := [2, hi0, a.d, (m : Int) - 1, hi0 - lo0]) (Blk.new W2 3 #[.int .i64 2, .int .i64 hi0, .int .i64 a.d, .int .i64 ((m : Int) - 1), .int .i64 (hi0 - lo0)]) rfl (k := 5) rfl (Nat.le_refl _) (by omega)
      rw [← hbl1.out] at hOI
      have hqB : q < W2.heap.size := Nat.lt_of_lt_of_le hq (Nat.le_trans hb.size hl2.size)
      have hBB : w.heap.size < W2.heap.size := hbx4.lt
      have hbx6 := hbx4.later (laterA (Below.refl W2.heap.size W2) (.cells #[.int .i64 2, .int .i64 hi0, .int .i64 a.d, .int .i64 ((m : Int) - 1), .int .i64 (hi0 - lo0)] 3))
      have s2 := hbx6.cell 2
      simp at s2
      clear hbx6
      clear hb hcs hx0 hl2 hl3
      replace hqB := Lib.hid hqB
      replace hBB := Lib.hid hBB
      replace hr3 := Lib.hid hr3
      replace hbx3 := Lib.hid hbx3
      replace hlow3 := Lib.hid hlow3
      replace hr4 := Lib.hid hr4
      replace hbx4 := Lib.hid hbx4
      replace hlow4 := Lib.hid hlow4
      replace hr5 := Lib.hid hr5
      replace hbx5 := Lib.hid hbx5
      replace hlow5 := Lib.hid hlow5
      replace hOI := Lib.hid hOI
      replace hxr := Lib.hid hxr
      go_wp2_with fail

      go_loopw [6, 7] (fun lv iv wr => ∃ (k : Nat) (A3 : Option Addr) (n3 c3 : Nat), lv = .slice A3 n3 c3 ∧ iv = .int .i64 (k : Int) ∧ 1 ≤ k ∧ k ≤ m ∧ OI wr W2.heap.size (.slice A3 n3 c3) (bl a k) ∧ Below w.heap.size w wr ∧ Blk wr w.heap.size 25 #[.int .i64 a.d, .slice (some ⟨q, off, none⟩) m c, .bool false, .int .i64 a.e0, .int .i64 a.e1, .int .i64 a.e2] ∧ Rg wr (some ⟨q, off, none⟩) m c a.rs ∧ W2.heap.size ≤ wr.heap.size) (fun _ iv _ => m - (intOf iv).toNat)
      case atStart => exact ⟨1, _, _, _, rfl, rfl, Nat.le_refl _, hm1, hOI.out, hlow5.out, hbx5.out, hr5.out, by simp⟩
      case round =>
        obtain ⟨k, A3, n3, c3', rfl, rfl, hk1, hkm, hO, hl3, hb3, hr3, hsz3⟩ := hrel
        by_cases hlt : k < m
        · obtain ⟨j, rfl⟩ : ∃ j, k = j + 1 := ⟨k - 1, by omega⟩
          have hcast : ((j + 1 : Nat) : Int) = (j : Int) + 1 := by omega
          have hki : (j : Int) + 1 < (m : Int) := by omega
          have hjm2 : (j : Int) < (m : Int) := by omega
          have hjm : j < m := by omega
          have hj0 : (0 : Int) ≤ (j : Int) := by omega
          have wj : IntKind.i64.wrap (j : Int) = j := IntWalk.i64_in _ (by omega)
          obtain ⟨q', off', he, hq', hcs⟩ := hr3.at hm1
          injection he with he
          injection he with he1 he2 _
          subst he1 he2
          obtain ⟨lo, hi, hx⟩ : ∃ lo hi, a.rs[j + 1]'(by rw [hlen.out]; exact hlt) = (lo, hi) := ⟨_, _, rfl⟩
          have hx? : a.rs[j + 1]? = some (lo, hi) := by rw [List.getElem?_eq_getElem (by rw [hlen.out]; exact hlt), hx]
          obtain ⟨lo2, hi2, hx2⟩ : ∃ lo hi, a.rs[j]'(by rw [hlen.out]; omega) = (lo, hi) := ⟨_, _, rfl⟩
          have hx2? : a.rs[j]? = some (lo2, hi2) := by rw [List.getElem?_eq_getElem (by rw [hlen.out]; omega), hx2]
          obtain ⟨g0, g1⟩ := hcs (j + 1) (lo, hi) hx?
          obtain ⟨f0, _⟩ := hcs j (lo2, hi2) hx2?
          simp only at g0 g1 f0
          have o1 := (Frm.okR_iff _).1 (List.all_eq_true.1 hall.out _ (List.mem_of_getElem? hx?))
          have o2 := (Frm.okR_iff _).1 (List.all_eq_true.1 hall.out _ (List.mem_of_getElem? hx2?))
          simp only at o1 o2
          have w1 : IntKind.i64.wrap ((j : Int) + 1 - 1) = j := by rw [IntWalk.i64_in _ (by omega)]; omega
          have w2 : IntKind.i64.wrap (lo2 - hi) = lo2 - hi := IntWalk.i64_in _ (by omega)
          have w3 : IntKind.i64.wrap (lo2 - hi - 2) = lo2 - hi - 2 := IntWalk.i64_in _ (by omega)
          have w4 : IntKind.i64.wrap ((j : Int) + 1 + 1) = (j : Int) + 1 + 1 := IntWalk.i64_in _ (by omega)
          have w5 : IntKind.i64.wrap (hi - lo) = hi - lo := IntWalk.i64_in _ (by omega)
          have hbl2 : bl a (j + 1 + 1) = bl a (j + 1) ++ [lo2 - hi - 2, hi - lo] := by
            have e0 : gpk a.rs (j + 1) = (lo2 - hi - 2, (lo, hi)) := by unfold gpk; rw [hx?, if_neg (by omega), show j + 1 - 1 = j by omega, hx2?]; rfl
            rw [bl_succ a (j + 1) (by omega), e0, wdW_ok (x := (lo2 - hi - 2, (lo, hi))) (by rw [Frm.okR_iff]; exact o1)]
          have hbll := bl_len a (j + 1)
          have c1 := hb3.cell 1
          simp at c1
          have hlx := laterA (Below.refl wr.heap.size wr) (.cells #[.int .i64 lo, .int .i64 hi] 36)
          have hO4 := hO.later hlx
          have hb4 := hb3.later hlx
          have hr4 := hr3.later hlx
          have hl4 := old_later2 hl3 hlx hl3.size
          have hsz4 := Nat.le_trans hsz3 hlx.size
          have y2 := (hlx.cell (p := ⟨q, off + j * 2, none⟩) hq').trans f0
          obtain ⟨W4, hW4⟩ : ∃ W, wr.alloc (.cells #[.int .i64 lo, .int .i64 hi] 36) = W := ⟨_, rfl⟩
          have hxr := Blk.new wr 36 #[.int .i64 lo, .int .i64 hi]
          rw [hW4] at hO4 hb4 hr4 hl4 hsz4 y2 hxr
          have y0 := hxr.cell 0
          have y1 := hxr.cell 1
          have c2 := hb4.cell 1
          simp at y0 y1 c2
          have hlN := laterD_ (laterA (Below.refl W4.heap.size W4) (.cells #[.int .i64 (lo2 - hi - 2), .int .i64 (hi - lo)] 3))
          have hO5 : OI (W4.alloc (.cells #[.int .i64 (lo2 - hi - 2), .int .i64 (hi - lo)] 3)).drew W2.heap.size (.slice A3 n3 c3') (bl a (j + 1)) := hO4.later hlN
          have hbN := (Blk.new W4 3 #[.int .i64 (lo2 - hi - 2), .int .i64 (hi - lo)]).drew
          have hb5 := hb4.later hlN
          have hr5 := hr4.later hlN
          have hl5 := old_later2 hl4 hlN hl4.size
          have hsz5 := Nat.le_trans hsz4 hlN.size
          rw [hcast]
          have hS0 : W4.drew.cell? ⟨w.heap.size, 1, none⟩ = some (.slice (some ⟨q, off, none⟩) m c) ∧ W4.drew.cell? ⟨wr.heap.size, 1, none⟩ = some (.int .i64 hi) ∧ W4.drew.cell? ⟨wr.heap.size, 0, none⟩ = some (.int .i64 lo) ∧ W4.drew.cell? ⟨q, off + j * 2, none⟩ = some (.int .i64 lo2) := ⟨c2, y1, y0, y2⟩
          have hS1 : (W4.alloc (.cells #[.int .i64 (lo2 - hi - 2), .int .i64 (hi - lo)] 3)).drew.cell? ⟨w.heap.size, 1, none⟩ = some (.slice (some ⟨q, off, none⟩) m c) ∧ (W4.alloc (.cells #[.int .i64 (lo2 - hi - 2), .int .i64 (hi - lo)] 3)).drew.cell? ⟨wr.heap.size, 1, none⟩ = some (.int .i64 hi) ∧ (W4.alloc (.cells #[.int .i64 (lo2 - hi - 2), .int .i64 (hi - lo)] 3)).drew.cell? ⟨wr.heap.size, 0, none⟩ = some (.int .i64 lo) ∧ (W4.alloc (.cells #[.int .i64 (lo2 - hi - 2), .int .i64 (hi - lo)] 3)).drew.cell? ⟨q, off + j * 2, none⟩ = some (.int .i64 lo2) := ⟨(hlN.cell (p := ⟨w.heap.size, 1, none⟩) hb4.lt).trans c2, (hlN.cell (p := ⟨wr.heap.size, 1, none⟩) hxr.lt).trans y1, (hlN.cell (p := ⟨wr.heap.size, 0, none⟩) hxr.lt).trans y0, (hlN.cell (p := ⟨q, off + j * 2, none⟩) (block_lt_of_cell y2)).trans y2⟩
          have hxN : Blk (W4.alloc (.cells #[.int .i64 (lo2 - hi - 2), .int .i64 (hi - lo)] 3)).drew wr.heap.size 36 #[.int .i64 lo, .int .i64 hi] := hxr.later hlN
          clear hcs hO hl3 hb3 hr3 o1 o2 hx hx2 hx? hx2? hlx hO4 hb4 hr4 hl4 hlN hxr
          replace hbl2 := Lib.hid hbl2
          replace hS0 := Lib.hid hS0
          replace hS1 := Lib.hid hS1
          replace hxN := Lib.hid hxN
          replace hbll := Lib.hid hbll
          replace hsz3 := Lib.hid hsz3
          replace hsz4 := Lib.hid hsz4
          replace hO5 := Lib.hid hO5
          replace hbN := Lib.hid hbN
          replace hb5 := Lib.hid hb5
          replace hr5 := Lib.hid hr5
          replace hl5 := Lib.hid hl5
          replace hsz5 := Lib.hid hsz5
          go_wp2_with fail
          go_region_held3 (fun w' => w'.cell? ⟨w.heap.size, 1, none⟩ = some (.slice (some ⟨q, off, none⟩) m c) ∧ w'.cell? ⟨wr.heap.size, 1, none⟩ = some (.int .i64 hi) ∧ w'.cell? ⟨wr.heap.size, 0, none⟩ = some (.int .i64 lo) ∧ w'.cell? ⟨q, off + j * 2, none⟩ = some (.int .i64 lo2)) (first | with_reducible exact hS0.out | with_reducible exact hS1.out | with_reducible exact hS2.out | fail) (first | (refine step_ois (h := W4.heap.size) (k := 2) (ys := [lo2 - hi - 2, hi - lo]) (l := bl a (j + 1)) (B := W2.heap.size) rfl _ _ rfl rfl rfl hO5.out hbN.out rfl rfl (by have := hbll.out; omega) hsz5.out ?_; intro v' w' hO6 hg6; have hS2 : w'.cell? ⟨w.heap.size, 1, none⟩ = some (.slice (some ⟨q, off, none⟩) m c) ∧ w'.cell? ⟨wr.heap.size, 1, none⟩ = some (.int .i64 hi) ∧ w'.cell? ⟨wr.heap.size, 0, none⟩ = some (.int .i64 lo) ∧ w'.cell? ⟨q, off + j * 2, none⟩ = some (.int .i64 lo2) := ⟨by have := (hO5.out.row hg6 hb5.out (by decide)).cell 1; simpa using this, by have := (hO5.out.row hg6 hxN.out (by decide)).cell 1; simpa using this, by have := (hO5.out.row hg6 hxN.out (by decide)).cell 0; simpa using this, cell_only (Only.of_row hg6) (fun hf => by have := (World.ownsRow.lt hO5.out q hf).1; have := hqB.out; omega) hS1.out.2.2.2⟩; replace hS2 := Lib.hid hS2; replace hO6 := Lib.hid hO6; replace hg6 := Lib.hid hg6) | fail)
          have hb6 := hO5.out.row hg6.out hb5.out (by decide)
          have hl6 := hO5.out.row_low hg6.out hl5.out (Nat.le_of_lt hBB.out)
          have hr6 := hO5.out.row_rg hg6.out hr5.out (fun x hx => by injection hx with hx; subst hx; exact hqB.out)
          have hsz6 := Nat.le_trans hsz5.out hg6.out.size
          replace hO6 := hO6.out
          rw [← hbl2.out] at hO6
          obtain ⟨A6, n6, c6, rfl⟩ := hO6.slice
          rename_i hHeld
          clear hHeld
          replace hsz6 := Lib.hid hsz6
          replace hb6 := Lib.hid hb6
          replace hl6 := Lib.hid hl6
          replace hr6 := Lib.hid hr6
          replace hO6 := Lib.hid hO6
          go_wp2_with fail
          refine ⟨⟨j + 1 + 1, A6, n6, c6, rfl, by simp, by omega, by omega, hO6.out, hl6.out, hb6.out, hr6.out, hsz6.out⟩, ?_⟩
          simp only [intOf]
          omega
        · obtain rfl : m = k := by omega
          have hki : ¬ (m : Int) < (m : Int) := by omega
          have c1 := hb3.cell 1
          have c2 := hb3.cell 2
          have c3 := hb3.cell 3
          have c4 := hb3.cell 4
          have c5 := hb3.cell 5
          simp at c1 c2 c3 c4 c5

          have hO6 := hO
          have hl6 := hl3
          have hsz6 := hsz3
          clear hO hl3 hb3 hr3 hsz3
          rw [← List.append_nil (bl a m)] at hO6
          simp only [List.append_nil] at hO6

          obtain ⟨LL, hLL⟩ : ∃ LL, bl a m = LL := ⟨_, rfl⟩
          rw [hLL] at hO6
          have hL6 : putL [] LL = L := by rw [← hLL]; exact hL.out
          have hbm6 : LL.length ≤ 600 := by rw [← hLL]; exact hbm.out
          have hLp : 0 < LL.length := by rw [← hLL]; simp [bl]
          clear hLL hL hbm
          obtain ⟨g, cap, hv6, hcell6⟩ := hO6.cell hLp
          injection hv6 with hva hvb hvc
          subst hva hvb
          have hvc2 := hvc.symm
          subst hvc2
          obtain ⟨N, hN⟩ : ∃ N, LL.length = N := ⟨_, rfl⟩
          rw [hN] at hO6 hbm6 hLp ⊢
          replace hN := Lib.hid hN
          replace hcell6 := Lib.hid hcell6
          replace hL6 := Lib.hid hL6
          replace hsz6 := Lib.hid hsz6
          replace hO6 := Lib.hid hO6
          replace hl6 := Lib.hid hl6
          go_wp2_with fail
          go_loopw [9, 10] (fun ov iv wr => ∃ (k q' : Nat) (A' : Option Addr) (c' : Nat), ov = .slice A' (putL [] (LL.take k)).length c' ∧ iv = .int .i64 (k : Int) ∧ k ≤ N ∧ Sl wr q' A' (putL [] (LL.take k)).length c' (putL [] (LL.take k)) ∧ OI wr W2.heap.size (.slice (some ⟨g, 0, none⟩) N cap) LL ∧ Below w.heap.size w wr) (fun _ iv _ => N - (intOf iv).toNat)
          case atStart => exact ⟨0, 0, none, 0, rfl, rfl, Nat.zero_le _, ⟨rfl, Nat.zero_le _, by simp [maxLen], .inl ⟨rfl, rfl, rfl⟩⟩, hO6.out, hl6.out⟩
          case round =>
            obtain ⟨k, q', A', c', rfl, rfl, hkN, hS, hOI3, hlow7⟩ := hrel
            by_cases hkn : k < N
            · have hki : (k : Int) < (N : Int) := by omega
              have hwk : IntKind.i64.wrap ((k : Int) + 1) = (k : Int) + 1 := IntWalk.i64_in _ (by omega)
              obtain ⟨x, hx⟩ : ∃ x, LL[k]? = some x := ⟨_, List.getElem?_eq_getElem (by rw [hN.out]; exact hkn)⟩
              obtain ⟨g', cap', he, hcell⟩ := hOI3.cell (by rw [hN.out]; exact hLp)
              injection he with he1 he2 he3
              injection he1 with he1
              injection he1 with he1 _ _
              subst he1
              have y0 := hcell k x hx
              have hpl := putL_len (LL.take k) []
              rw [List.length_take, hN.out] at hpl
              simp only [List.length_nil] at hpl
              have hsn : putL [] (LL.take (k + 1)) = (Oct.put (putL [] (LL.take k)) x).1 := by
                rw [List.take_add_one, hx, putL_append]
                rfl
              have hP := rput_any A' (putL [] (LL.take k)).length c' (putL [] (LL.take k)) x wr hS.rb (by omega)
              obtain ⟨PL, hPL⟩ : ∃ PL, Oct.put (putL [] (LL.take k)) x = PL := ⟨_, rfl⟩
              rw [hPL] at hP hsn
              obtain ⟨pl, pe⟩ := PL
              simp only at hP hsn
              clear hPL hcell he2 he3 hS hpl
              replace hsn := Lib.hid hsn
              replace hx := Lib.hid hx
              replace hOI3 := Lib.hid hOI3
              replace hlow7 := Lib.hid hlow7
              go_wp2_with fail
              with_reducible refine hP.mono ?_
              clear hP
              rintro e w8 ⟨v8, rfl, hob, hb⟩
              have hOI4 := hOI3.out.later hb
              have hlow8 := old_later2 hlow7.out hb hlow7.out.size
              obtain ⟨q8, A8, c8, rfl, _, hs8, _⟩ := hob.open_
              rw [← hsn.out] at hs8 ⊢
              clear hob hb y0
              replace hOI4 := Lib.hid hOI4
              replace hlow8 := Lib.hid hlow8
              replace hs8 := Lib.hid hs8
              go_wp2_with fail
              refine ⟨⟨k + 1, q8, A8, c8, rfl, by simp, by omega, hs8.out, hOI4.out, hlow8.out⟩, ?_⟩
              simp only [intOf]
              omega
            · obtain rfl : N = k := by omega
              have hki : ¬ (N : Int) < (N : Int) := by omega
              rw [List.take_of_length_le (by rw [hN.out]; exact Nat.le_refl _), hL6.out] at hS ⊢
              replace hS := Lib.hid hS
              replace hlow7 := Lib.hid hlow7
              replace hOI3 := Lib.hid hOI3
              go_wp2_with fail
              refine bodyPost_ret (results_tmp2 rfl _ _) rfl ?_
              exact ⟨q', A', c', rfl, hS.out, hlow7.out⟩
    | true =>
      rw [hmk] at hbl1 p2 hL hbm hC hW hbx
      simp only [↓reduceIte] at hbl1 hL hbm
      replace hbx := Lib.hid hbx
      replace hlow := Lib.hid hlow
      replace hcs := Lib.hid hcs
      replace hx0 := Lib.hid hx0
      replace hok0 := Lib.hid hok0
      replace hbl1 := Lib.hid hbl1
      replace hL := Lib.hid hL
      replace hbm := Lib.hid hbm
      replace hall := Lib.hid hall
      replace hr2 := Lib.hid hr2
      replace hlen := Lib.hid hlen
      replace hmk := Lib.hid hmk
      go_enter Tryd.func14, Tryd.ntmps14
      go_wp2_with fail
      with_reducible refine hC.mono ?_
      clear hC p0 p1 p2 p3 p4 p5
      rintro e w1 ⟨rfl, hb⟩
      have hr3 := hr2.out.later hb
      have hbx3 := hbx.out.later hb
      have hlow3 := old_later2 hlow.out hb hlow.out.size
      have g0 := (hb.cell (p := ⟨q, off + 0 * 2, none⟩) hq).trans (hcs.out 0 _ hx0.out).1
      have g1 := (hb.cell (p := ⟨q, off + 0 * 2 + 1, none⟩) hq).trans (hcs.out 0 _ hx0.out).2
      have p0 := hbx3.cell 0
      have p1 := hbx3.cell 1
      have p2 := hbx3.cell 2
      simp at p0 p1 p2
      simp only [Nat.zero_mul, Nat.add_zero] at g0 g1
      have hl2 := laterA (Below.refl w1.heap.size w1) (.cells #[.int .i64 lo0, .int .i64 hi0] 36)
      have hr4 := hr3.later hl2
      have hbx4 := hbx3.later hl2
      have hlow4 := old_later2 hlow3 hl2 hlow3.size
      obtain ⟨W2, hW2⟩ : ∃ W, w1.alloc (.cells #[.int .i64 lo0, .int .i64 hi0] 36) = W := ⟨_, rfl⟩
      have hxr := Blk.new w1 36 #[.int .i64 lo0, .int .i64 hi0]
      rw [hW2] at hr4 hbx4 hlow4 hxr hl2
      have x0 := hxr.cell 0
      have x1 := hxr.cell 1
      have r0 := hbx4.cell 0
      have r1 := hbx4.cell 1
      simp at x0 x1 r0 r1
      have hl3 := laterA (Below.refl W2.heap.size W2) (.cells #[.int .i64 3, .int .i64 hi0, .int .i64 a.d, .int .i64 ((m : Int) - 1), .int .i64 (hi0 - lo0)] 3)
      have hr5 := hr4.later hl3
      have hbx5 := hbx4.later hl3
      have hlow5 := old_later2 hlow4 hl3 hlow4.size
      have hOI := oi_blk (B := W2.heap.size) (ys := [3, hi0, a.d, (m : Int) - 1, hi0 - lo0]) (Blk.new W2 3 #[.int .i64 3, .int .i64 hi0, .int .i64 a.d, .int .i64 ((m : Int) - 1), .int .i64 (hi0 - lo0)]) rfl (k := 5) rfl (Nat.le_refl _) (by omega)
      rw [← hbl1.out] at hOI
      have hqB : q < W2.heap.size := Nat.lt_of_lt_of_le hq (Nat.le_trans hb.size hl2.size)
      have hBB : w.heap.size < W2.heap.size := hbx4.lt
      have hbx6 := hbx4.later (laterA (Below.refl W2.heap.size W2) (.cells #[.int .i64 2, .int .i64 hi0, .int .i64 a.d, .int .i64 ((m : Int) - 1), .int .i64 (hi0 - lo0)] 3))
      have s2 := hbx6.cell 2
      simp at s2
      clear hbx6
      clear hb hcs hx0 hl2 hl3
      replace hqB := Lib.hid hqB
      replace hBB := Lib.hid hBB
      replace hr3 := Lib.hid hr3
      replace hbx3 := Lib.hid hbx3
      replace hlow3 := Lib.hid hlow3
      replace hr4 := Lib.hid hr4
      replace hbx4 := Lib.hid hbx4
      replace hlow4 := Lib.hid hlow4
      replace hr5 := Lib.hid hr5
      replace hbx5 := Lib.hid hbx5
      replace hlow5 := Lib.hid hlow5
      replace hOI := Lib.hid hOI
      replace hxr := Lib.hid hxr
      go_wp2_with fail

      go_loopw [6, 7] (fun lv iv wr => ∃ (k : Nat) (A3 : Option Addr) (n3 c3 : Nat), lv = .slice A3 n3 c3 ∧ iv = .int .i64 (k : Int) ∧ 1 ≤ k ∧ k ≤ m ∧ OI wr W2.heap.size (.slice A3 n3 c3) (bl a k) ∧ Below w.heap.size w wr ∧ Blk wr w.heap.size 25 #[.int .i64 a.d, .slice (some ⟨q, off, none⟩) m c, .bool true, .int .i64 a.e0, .int .i64 a.e1, .int .i64 a.e2] ∧ Rg wr (some ⟨q, off, none⟩) m c a.rs ∧ W2.heap.size ≤ wr.heap.size) (fun _ iv _ => m - (intOf iv).toNat)
      case atStart => exact ⟨1, _, _, _, rfl, rfl, Nat.le_refl _, hm1, hOI.out, hlow5.out, hbx5.out, hr5.out, by simp⟩
      case round =>
        obtain ⟨k, A3, n3, c3', rfl, rfl, hk1, hkm, hO, hl3, hb3, hr3, hsz3⟩ := hrel
        by_cases hlt : k < m
        · obtain ⟨j, rfl⟩ : ∃ j, k = j + 1 := ⟨k - 1, by omega⟩
          have hcast : ((j + 1 : Nat) : Int) = (j : Int) + 1 := by omega
          have hki : (j : Int) + 1 < (m : Int) := by omega
          have hjm2 : (j : Int) < (m : Int) := by omega
          have hjm : j < m := by omega
          have hj0 : (0 : Int) ≤ (j : Int) := by omega
          have wj : IntKind.i64.wrap (j : Int) = j := IntWalk.i64_in _ (by omega)
          obtain ⟨q', off', he, hq', hcs⟩ := hr3.at hm1
          injection he with he
          injection he with he1 he2 _
          subst he1 he2
          obtain ⟨lo, hi, hx⟩ : ∃ lo hi, a.rs[j + 1]'(by rw [hlen.out]; exact hlt) = (lo, hi) := ⟨_, _, rfl⟩
          have hx? : a.rs[j + 1]? = some (lo, hi) := by rw [List.getElem?_eq_getElem (by rw [hlen.out]; exact hlt), hx]
          obtain ⟨lo2, hi2, hx2⟩ : ∃ lo hi, a.rs[j]'(by rw [hlen.out]; omega) = (lo, hi) := ⟨_, _, rfl⟩
          have hx2? : a.rs[j]? = some (lo2, hi2) := by rw [List.getElem?_eq_getElem (by rw [hlen.out]; omega), hx2]
          obtain ⟨g0, g1⟩ := hcs (j + 1) (lo, hi) hx?
          obtain ⟨f0, _⟩ := hcs j (lo2, hi2) hx2?
          simp only at g0 g1 f0
          have o1 := (Frm.okR_iff _).1 (List.all_eq_true.1 hall.out _ (List.mem_of_getElem? hx?))
          have o2 := (Frm.okR_iff _).1 (List.all_eq_true.1 hall.out _ (List.mem_of_getElem? hx2?))
          simp only at o1 o2
          have w1 : IntKind.i64.wrap ((j : Int) + 1 - 1) = j := by rw [IntWalk.i64_in _ (by omega)]; omega
          have w2 : IntKind.i64.wrap (lo2 - hi) = lo2 - hi := IntWalk.i64_in _ (by omega)
          have w3 : IntKind.i64.wrap (lo2 - hi - 2) = lo2 - hi - 2 := IntWalk.i64_in _ (by omega)
          have w4 : IntKind.i64.wrap ((j : Int) + 1 + 1) = (j : Int) + 1 + 1 := IntWalk.i64_in _ (by omega)
          have w5 : IntKind.i64.wrap (hi - lo) = hi - lo := IntWalk.i64_in _ (by omega)
          have hbl2 : bl a (j + 1 + 1) = bl a (j + 1) ++ [lo2 - hi - 2, hi - lo] := by
            have e0 : gpk a.rs (j + 1) = (lo2 - hi - 2, (lo, hi)) := by unfold gpk; rw [hx?, if_neg (by omega), show j + 1 - 1 = j by omega, hx2?]; rfl
            rw [bl_succ a (j + 1) (by omega), e0, wdW_ok (x := (lo2 - hi - 2, (lo, hi))) (by rw [Frm.okR_iff]; exact o1)]
          have hbll := bl_len a (j + 1)
          have c1 := hb3.cell 1
          simp at c1
          have hlx := laterA (Below.refl wr.heap.size wr) (.cells #[.int .i64 lo, .int .i64 hi] 36)
          have hO4 := hO.later hlx
          have hb4 := hb3.later hlx
          have hr4 := hr3.later hlx
          have hl4 := old_later2 hl3 hlx hl3.size
          have hsz4 := Nat.le_trans hsz3 hlx.size
          have y2 := (hlx.cell (p := ⟨q, off + j * 2, none⟩) hq').trans f0
          obtain ⟨W4, hW4⟩ : ∃ W, wr.alloc (.cells #[.int .i64 lo, .int .i64 hi] 36) = W := ⟨_, rfl⟩
          have hxr := Blk.new wr 36 #[.int .i64 lo, .int .i64 hi]
          rw [hW4] at hO4 hb4 hr4 hl4 hsz4 y2 hxr
          have y0 := hxr.cell 0
          have y1 := hxr.cell 1
          have c2 := hb4.cell 1
          simp at y0 y1 c2
          have hlN := laterD_ (laterA (Below.refl W4.heap.size W4) (.cells #[.int .i64 (lo2 - hi - 2), .int .i64 (hi - lo)] 3))
          have hO5 : OI (W4.alloc (.cells #[.int .i64 (lo2 - hi - 2), .int .i64 (hi - lo)] 3)).drew W2.heap.size (.slice A3 n3 c3') (bl a (j + 1)) := hO4.later hlN
          have hbN := (Blk.new W4 3 #[.int .i64 (lo2 - hi - 2), .int .i64 (hi - lo)]).drew
          have hb5 := hb4.later hlN
          have hr5 := hr4.later hlN
          have hl5 := old_later2 hl4 hlN hl4.size
          have hsz5 := Nat.le_trans hsz4 hlN.size
          rw [hcast]
          have hS0 : W4.drew.cell? ⟨w.heap.size, 1, none⟩ = some (.slice (some ⟨q, off, none⟩) m c) ∧ W4.drew.cell? ⟨wr.heap.size, 1, none⟩ = some (.int .i64 hi) ∧ W4.drew.cell? ⟨wr.heap.size, 0, none⟩ = some (.int .i64 lo) ∧ W4.drew.cell? ⟨q, off + j * 2, none⟩ = some (.int .i64 lo2) := ⟨c2, y1, y0, y2⟩
          have hS1 : (W4.alloc (.cells #[.int .i64 (lo2 - hi - 2), .int .i64 (hi - lo)] 3)).drew.cell? ⟨w.heap.size, 1, none⟩ = some (.slice (some ⟨q, off, none⟩) m c) ∧ (W4.alloc (.cells #[.int .i64 (lo2 - hi - 2), .int .i64 (hi - lo)] 3)).drew.cell? ⟨wr.heap.size, 1, none⟩ = some (.int .i64 hi) ∧ (W4.alloc (.cells #[.int .i64 (lo2 - hi - 2), .int .i64 (hi - lo)] 3)).drew.cell? ⟨wr.heap.size, 0, none⟩ = some (.int .i64 lo) ∧ (W4.alloc (.cells #[.int .i64 (lo2 - hi - 2), .int .i64 (hi - lo)] 3)).drew.cell? ⟨q, off + j * 2, none⟩ = some (.int .i64 lo2) := ⟨(hlN.cell (p := ⟨w.heap.size, 1, none⟩) hb4.lt).trans c2, (hlN.cell (p := ⟨wr.heap.size, 1, none⟩) hxr.lt).trans y1, (hlN.cell (p := ⟨wr.heap.size, 0, none⟩) hxr.lt).trans y0, (hlN.cell (p := ⟨q, off + j * 2, none⟩) (block_lt_of_cell y2)).trans y2⟩
          have hxN : Blk (W4.alloc (.cells #[.int .i64 (lo2 - hi - 2), .int .i64 (hi - lo)] 3)).drew wr.heap.size 36 #[.int .i64 lo, .int .i64 hi] := hxr.later hlN
          clear hcs hO hl3 hb3 hr3 o1 o2 hx hx2 hx? hx2? hlx hO4 hb4 hr4 hl4 hlN hxr
          replace hbl2 := Lib.hid hbl2
          replace hS0 := Lib.hid hS0
          replace hS1 := Lib.hid hS1
          replace hxN := Lib.hid hxN
          replace hbll := Lib.hid hbll
          replace hsz3 := Lib.hid hsz3
          replace hsz4 := Lib.hid hsz4
          replace hO5 := Lib.hid hO5
          replace hbN := Lib.hid hbN
          replace hb5 := Lib.hid hb5
          replace hr5 := Lib.hid hr5
          replace hl5 := Lib.hid hl5
          replace hsz5 := Lib.hid hsz5
          go_wp2_with fail
          go_region_held3 (fun w' => w'.cell? ⟨w.heap.size, 1, none⟩ = some (.slice (some ⟨q, off, none⟩) m c) ∧ w'.cell? ⟨wr.heap.size, 1, none⟩ = some (.int .i64 hi) ∧ w'.cell? ⟨wr.heap.size, 0, none⟩ = some (.int .i64 lo) ∧ w'.cell? ⟨q, off + j * 2, none⟩ = some (.int .i64 lo2)) (first | with_reducible exact hS0.out | with_reducible exact hS1.out | with_reducible exact hS2.out | fail) (first | (refine step_ois (h := W4.heap.size) (k := 2) (ys := [lo2 - hi - 2, hi - lo]) (l := bl a (j + 1)) (B := W2.heap.size) rfl _ _ rfl rfl rfl hO5.out hbN.out rfl rfl (by have := hbll.out; omega) hsz5.out ?_; intro v' w' hO6 hg6; have hS2 : w'.cell? ⟨w.heap.size, 1, none⟩ = some (.slice (some ⟨q, off, none⟩) m c) ∧ w'.cell? ⟨wr.heap.size, 1, none⟩ = some (.int .i64 hi) ∧ w'.cell? ⟨wr.heap.size, 0, none⟩ = some (.int .i64 lo) ∧ w'.cell? ⟨q, off + j * 2, none⟩ = some (.int .i64 lo2) := ⟨by have := (hO5.out.row hg6 hb5.out (by decide)).cell 1; simpa using this, by have := (hO5.out.row hg6 hxN.out (by decide)).cell 1; simpa using this, by have := (hO5.out.row hg6 hxN.out (by decide)).cell 0; simpa using this, cell_only (Only.of_row hg6) (fun hf => by have := (World.ownsRow.lt hO5.out q hf).1; have := hqB.out; omega) hS1.out.2.2.2⟩; replace hS2 := Lib.hid hS2; replace hO6 := Lib.hid hO6; replace hg6 := Lib.hid hg6) | fail)
          have hb6 := hO5.out.row hg6.out hb5.out (by decide)
          have hl6 := hO5.out.row_low hg6.out hl5.out (Nat.le_of_lt hBB.out)
          have hr6 := hO5.out.row_rg hg6.out hr5.out (fun x hx => by injection hx with hx; subst hx; exact hqB.out)
          have hsz6 := Nat.le_trans hsz5.out hg6.out.size
          replace hO6 := hO6.out
          rw [← hbl2.out] at hO6
          obtain ⟨A6, n6, c6, rfl⟩ := hO6.slice
          rename_i hHeld
          clear hHeld
          replace hsz6 := Lib.hid hsz6
          replace hb6 := Lib.hid hb6
          replace hl6 := Lib.hid hl6
          replace hr6 := Lib.hid hr6
          replace hO6 := Lib.hid hO6
          go_wp2_with fail
          refine ⟨⟨j + 1 + 1, A6, n6, c6, rfl, by simp, by omega, by omega, hO6.out, hl6.out, hb6.out, hr6.out, hsz6.out⟩, ?_⟩
          simp only [intOf]
          omega
        · obtain rfl : m = k := by omega
          have hki : ¬ (m : Int) < (m : Int) := by omega
          have c1 := hb3.cell 1
          have c2 := hb3.cell 2
          have c3 := hb3.cell 3
          have c4 := hb3.cell 4
          have c5 := hb3.cell 5
          simp at c1 c2 c3 c4 c5

          have hlN := laterA (Below.refl wr.heap.size wr) (.cells #[.int .i64 a.e0, .int .i64 a.e1, .int .i64 a.e2] 3)
          have hO5 := hO.later hlN
          have hbN := Blk.new wr 3 #[.int .i64 a.e0, .int .i64 a.e1, .int .i64 a.e2]
          have hl5 := old_later2 hl3 hlN hl3.size
          have hsz5 := Nat.le_trans hsz3 hlN.size
          have hbll := bl_len a m
          clear hO hl3 hb3 hr3 hlN
          replace hsz3 := Lib.hid hsz3
          replace hsz5 := Lib.hid hsz5
          replace hbll := Lib.hid hbll
          replace hO5 := Lib.hid hO5
          replace hbN := Lib.hid hbN
          replace hl5 := Lib.hid hl5
          go_wp2_with (at_builtin; refine wpList_ois (h := wr.heap.size) (k := 3) (ys := [a.e0, a.e1, a.e2]) (l := bl a m) (B := W2.heap.size) rfl _ _ rfl rfl rfl hO5.out hbN.out rfl rfl (by have := hbll.out; omega) hsz5.out ?_)
          intro v6 w6 hO6 hg6
          have hl6 := hO5.out.row_low hg6 hl5.out (Nat.le_of_lt hBB.out)
          have hsz6 := Nat.le_trans hsz5.out hg6.size
          clear hO5 hbN hl5 hg6 c1 c2 c3 c4 c5

          obtain ⟨LL, hLL⟩ : ∃ LL, bl a m ++ [a.e0, a.e1, a.e2] = LL := ⟨_, rfl⟩
          rw [hLL] at hO6
          have hL6 : putL [] LL = L := by rw [← hLL]; exact hL.out
          have hbm6 : LL.length ≤ 600 := by rw [← hLL]; exact hbm.out
          have hLp : 0 < LL.length := by rw [← hLL]; simp [bl]
          clear hLL hL hbm
          obtain ⟨g, cap, hv6, hcell6⟩ := hO6.cell hLp
          subst hv6
          obtain ⟨N, hN⟩ : ∃ N, LL.length = N := ⟨_, rfl⟩
          rw [hN] at hO6 hbm6 hLp ⊢
          replace hN := Lib.hid hN
          replace hcell6 := Lib.hid hcell6
          replace hL6 := Lib.hid hL6
          replace hsz6 := Lib.hid hsz6
          replace hO6 := Lib.hid hO6
          replace hl6 := Lib.hid hl6
          go_wp2_with fail
          go_loopw [9, 10] (fun ov iv wr => ∃ (k q' : Nat) (A' : Option Addr) (c' : Nat), ov = .slice A' (putL [] (LL.take k)).length c' ∧ iv = .int .i64 (k : Int) ∧ k ≤ N ∧ Sl wr q' A' (putL [] (LL.take k)).length c' (putL [] (LL.take k)) ∧ OI wr W2.heap.size (.slice (some ⟨g, 0, none⟩) N cap) LL ∧ Below w.heap.size w wr) (fun _ iv _ => N - (intOf iv).toNat)
          case atStart => exact ⟨0, 0, none, 0, rfl, rfl, Nat.zero_le _, ⟨rfl, Nat.zero_le _, by simp [maxLen], .inl ⟨rfl, rfl, rfl⟩⟩, hO6.out, hl6.out⟩
          case round =>
            obtain ⟨k, q', A', c', rfl, rfl, hkN, hS, hOI3, hlow7⟩ := hrel
            by_cases hkn : k < N
            · have hki : (k : Int) < (N : Int) := by omega
              have hwk : IntKind.i64.wrap ((k : Int) + 1) = (k : Int) + 1 := IntWalk.i64_in _ (by omega)
              obtain ⟨x, hx⟩ : ∃ x, LL[k]? = some x := ⟨_, List.getElem?_eq_getElem (by rw [hN.out]; exact hkn)⟩
              obtain ⟨g', cap', he, hcell⟩ := hOI3.cell (by rw [hN.out]; exact hLp)
              injection he with he1 he2 he3
              injection he1 with he1
              injection he1 with he1 _ _
              subst he1
              have y0 := hcell k x hx
              have hpl := putL_len (LL.take k) []
              rw [List.length_take, hN.out] at hpl
              simp only [List.length_nil] at hpl
              have hsn : putL [] (LL.take (k + 1)) = (Oct.put (putL [] (LL.take k)) x).1 := by
                rw [List.take_add_one, hx, putL_append]
                rfl
              have hP := rput_any A' (putL [] (LL.take k)).length c' (putL [] (LL.take k)) x wr hS.rb (by omega)
              obtain ⟨PL, hPL⟩ : ∃ PL, Oct.put (putL [] (LL.take k)) x = PL := ⟨_, rfl⟩
              rw [hPL] at hP hsn
              obtain ⟨pl, pe⟩ := PL
              simp only at hP hsn
              clear hPL hcell he2 he3 hS hpl
              replace hsn := Lib.hid hsn
              replace hx := Lib.hid hx
              replace hOI3 := Lib.hid hOI3
              replace hlow7 := Lib.hid hlow7
              go_wp2_with fail
              with_reducible refine hP.mono ?_
              clear hP
              rintro e w8 ⟨v8, rfl, hob, hb⟩
              have hOI4 := hOI3.out.later hb
              have hlow8 := old_later2 hlow7.out hb hlow7.out.size
              obtain ⟨q8, A8, c8, rfl, _, hs8, _⟩ := hob.open_
              rw [← hsn.out] at hs8 ⊢
              clear hob hb y0
              replace hOI4 := Lib.hid hOI4
              replace hlow8 := Lib.hid hlow8
              replace hs8 := Lib.hid hs8
              go_wp2_with fail
              refine ⟨⟨k + 1, q8, A8, c8, rfl, by simp, by omega, hs8.out, hOI4.out, hlow8.out⟩, ?_⟩
              simp only [intOf]
              omega
            · obtain rfl : N = k := by omega
              have hki : ¬ (N : Int) < (N : Int) := by omega
              rw [List.take_of_length_le (by rw [hN.out]; exact Nat.le_refl _), hL6.out] at hS ⊢
              replace hS := Lib.hid hS
              replace hlow7 := Lib.hid hlow7
              replace hOI3 := Lib.hid hOI3
              go_wp2_with fail
              refine bodyPost_ret (results_tmp2 rfl _ _) rfl ?_
              exact ⟨q', A', c', rfl, hS.out, hlow7.out⟩
end Go.Proofs.YtpagdcobhbkabaaDoor

namespace Go.Proofs.YtpagdcobhbkabaaDoor
open Go.RowKit Go.Sort Go.Shelf Go.Deep Go.WideShapes Go.ChangeShapes

def inR (n : Int) (p : Int × Int) : Bool := decide (p.1 ≤ n) && decide (n ≤ p.2)
theorem has1_any (lo hi n : Int) (B : Nat) (t : TypeId) (w : World) (hx : Blk w B t #[.int .i64 n]) :
    Calls Tryd.prog 43 #[.agg #[.int .i64 lo, .int .i64 hi], .pointer (some ⟨B, 0, none⟩)] w fun e w' => e = .returned (.bool (inR n (lo, hi))) ∧ Below w.heap.size w w' := by
  have c0 := hx.cell 0
  simp at c0
  have hlt := hx.lt
  have hb := laterA (Below.refl w.heap.size w) (.cells #[.int .i64 lo, .int .i64 hi] 36)
  clear hx
  by_cases h1 : n ≥ lo
  · by_cases h2 : n ≤ hi
    · have hv : inR n (lo, hi) = true := by unfold inR; rw [decide_eq_true (show lo ≤ n from h1), decide_eq_true h2]; rfl
      rw [hv]
      replace hb := Lib.hid hb
      go_enter Tryd.func43, Tryd.ntmps43
      go_wp2
      go_ret
      exact ⟨rfl, hb.out⟩
    · have hv : inR n (lo, hi) = false := by unfold inR; rw [decide_eq_false h2, Bool.and_false]
      rw [hv]
      replace hb := Lib.hid hb
      go_enter Tryd.func43, Tryd.ntmps43
      go_wp2
      go_ret
      exact ⟨rfl, hb.out⟩
  · have hv : inR n (lo, hi) = false := by unfold inR; rw [decide_eq_false (show ¬ lo ≤ n from h1)]; rfl
    rw [hv]
    replace hb := Lib.hid hb
    go_enter Tryd.func43, Tryd.ntmps43
    go_wp2
    go_ret
    exact ⟨rfl, hb.out⟩
set_option maxHeartbeats 1000000 in
theorem indexf_any (A : Option Addr) (m c : Nat) (rs : List (Int × Int)) (n : Int) (B : Nat) (t : TypeId) (w : World) (hx : Blk w B t #[.int .i64 n]) (hr : Rg w A m c rs) (hm : m ≤ 1000) :
    Calls Tryd.prog 60 #[.slice A m c, .func (.func 43) #[] #[.pointer (some ⟨B, 0, none⟩)]] w fun e w' => ∃ r : Int, e = .returned (.int .i64 r) ∧ decide (r ≥ 0) = rs.any (inR n) ∧ Below w.heap.size w w' := by
  have hlen := hr.1
  replace hx := Lib.hid hx
  replace hr := Lib.hid hr
  go_enter Tryd.func60, Tryd.ntmps60
  go_wp2
  go_loopw [8] (fun i wr => ∃ k : Nat, i = .int .i64 k ∧ k ≤ m ∧ (rs.take k).any (inR n) = false ∧ Below w.heap.size w wr) (fun i _ => m - (intOf i).toNat)
  case atStart => exact ⟨0, rfl, Nat.zero_le _, by simp, Below.refl _ _⟩
  case round =>
    obtain ⟨k, rfl, hk, hany, hb⟩ := hrel
    by_cases hkm : k < m
    · have hki : (k : Int) < (m : Int) := by omega
      have hwk : IntKind.i64.wrap ((k : Int) + 1) = (k : Int) + 1 := IntWalk.i64_in _ (by omega)
      obtain ⟨q, off, rfl, hq, hcs⟩ := (hr.out.later hb).at (by omega)
      obtain ⟨lo, hi, he⟩ : ∃ lo hi, rs[k]'(by omega) = (lo, hi) := ⟨_, _, rfl⟩
      have he? : rs[k]? = some (lo, hi) := by rw [List.getElem?_eq_getElem (by omega), he]
      obtain ⟨g0, g1⟩ := hcs k (lo, hi) he?
      simp only at g0 g1
      have hH := has1_any lo hi n B t wr (hx.out.later hb)
      have htk : (rs.take (k + 1)).any (inR n) = inR n (lo, hi) := by
        rw [List.take_add_one, he?, List.any_append, hany]
        simp
      have hall : inR n (lo, hi) = true → rs.any (inR n) = true := fun h => List.any_eq_true.2 ⟨(lo, hi), List.mem_of_getElem? he?, h⟩
      clear hcs he he? hany
      cases hv : inR n (lo, hi) with
      | true =>
        rw [hv] at hH
        have hall' := hall hv
        replace hb := Lib.hid hb
        replace htk := Lib.hid htk
        replace hall' := Lib.hid hall'
        clear hall
        go_wp2_with fail
        with_reducible refine hH.mono ?_
        rintro e w2 ⟨rfl, hb2⟩
        go_wp2
        go_ret
        exact ⟨k, rfl, by rw [hall'.out, decide_eq_true (by omega)], old_later2 hb.out hb2 hb.out.size⟩
      | false =>
        rw [hv] at hH htk
        replace hb := Lib.hid hb
        replace htk := Lib.hid htk
        clear hall
        go_wp2_with fail
        with_reducible refine hH.mono ?_
        rintro e w2 ⟨rfl, hb2⟩
        go_wp2
        go_roundw
        case rel => exact ⟨k + 1, by simp, by omega, htk.out, old_later2 hb.out hb2 hb.out.size⟩
        case measure => simp [intOf]; omega
    · obtain rfl : k = m := by omega
      rw [List.take_of_length_le (by omega)] at hany
      replace hany := Lib.hid hany
      replace hb := Lib.hid hb
      go_wp2
      go_ret
      exact ⟨-1, rfl, by rw [hany.out]; rfl, hb.out⟩
theorem contains_any (A : Option Addr) (m c : Nat) (rs : List (Int × Int)) (n : Int) (B : Nat) (t : TypeId) (w : World) (hx : Blk w B t #[.int .i64 n]) (hr : Rg w A m c rs) (hm : m ≤ 1000) :
    Calls Tryd.prog 42 #[.slice A m c, .func (.func 43) #[] #[.pointer (some ⟨B, 0, none⟩)]] w fun e w' => e = .returned (.bool (rs.any (inR n))) ∧ Below w.heap.size w w' := by
  have hI := indexf_any A m c rs n B t w hx hr hm
  clear hx hr
  generalize rs.any (inR n) = V at *
  go_enter Tryd.func42, Tryd.ntmps42
  go_wp2_with fail
  with_reducible refine hI.mono ?_
  rintro e w1 ⟨r, rfl, hd, hb⟩
  by_cases hr : r ≥ 0
  · rw [decide_eq_true hr] at hd
    subst hd
    go_wp2
    go_ret
    exact ⟨rfl, hb⟩
  · rw [decide_eq_false hr] at hd
    subst hd
    have hr' : decide (0 ≤ r) = false := decide_eq_false (by omega)
    replace hr := Lib.hid hr
    go_wp2
    go_ret
    exact ⟨rfl, hb⟩
set_option maxHeartbeats 1000000 in
theorem fhas1_any (a : Frm.Ak) (A : Option Addr) (m c : Nat) (n : Int) (w : World) (hr : Rg w A m c a.rs) (hm : m ≤ 1000) :
    Calls Tryd.prog 20 #[av a A m c, .int .i64 n] w fun e w' => e = .returned (.bool (Frm.has a n)) ∧ Below w.heap.size w w' := by
  have hbA := (Blk.new w 25 #[.int .i64 a.d, .slice A m c, .bool a.mkd, .int .i64 a.e0, .int .i64 a.e1, .int .i64 a.e2]).alloc (.cells #[.int .i64 n] 3)
  have hbN := Blk.new (w.alloc (.cells #[.int .i64 a.d, .slice A m c, .bool a.mkd, .int .i64 a.e0, .int .i64 a.e1, .int .i64 a.e2] 25)) 3 #[.int .i64 n]
  rw [World.size_alloc] at hbN
  have hlow := laterA (laterA (Below.refl w.heap.size w) (.cells #[.int .i64 a.d, .slice A m c, .bool a.mkd, .int .i64 a.e0, .int .i64 a.e1, .int .i64 a.e2] 25)) (.cells #[.int .i64 n] 3)
  have hC := check_any a A m c _ (hr.later hlow) hm
  have hr2 := hr.later hlow
  unfold av at hC ⊢
  have hh : Frm.has a n = (Frm.chk a && a.rs.any (inR n)) := rfl
  rw [hh]
  replace hbA := Lib.hid hbA
  replace hbN := Lib.hid hbN
  replace hlow := Lib.hid hlow
  replace hr := Lib.hid hr
  replace hr2 := Lib.hid hr2
  clear hh
  go_enter Tryd.func20, Tryd.ntmps20
  go_wp2_with fail
  with_reducible refine hC.mono ?_
  clear hC
  rintro e w1 ⟨rfl, hb⟩
  cases hk : Frm.chk a with
  | false =>
    have hlow2 := old_later2 hlow.out hb hlow.out.size
    replace hlow2 := Lib.hid hlow2
    replace hb := Lib.hid hb
    go_wp2_with fail
    go_ret
    exact ⟨by rw [hk]; rfl, hlow2.out⟩
  | true =>
    have hlow2 := old_later2 hlow.out hb hlow.out.size
    have hI := contains_any A m c a.rs n _ _ w1 (hbN.out.later hb) (hr2.out.later hb) hm
    have c1 := (hbA.out.later hb).cell 1
    simp at c1
    replace hlow2 := Lib.hid hlow2
    replace hb := Lib.hid hb
    go_wp2_with fail
    with_reducible refine hI.mono ?_
    rintro e w2 ⟨rfl, hb2⟩
    go_wp2
    go_ret
    exact ⟨by rw [hk]; rfl, old_later2 hlow2.out hb2 hlow2.out.size⟩
set_option maxHeartbeats 2000000 in
theorem tsame_any (a b : Frm.Ak) (A A' : Option Addr) (n c n' c' : Nat) (w : World) (h : Rg w A n c a.rs) (h' : Rg w A' n' c' b.rs) (hs : n ≤ 1000) :
    Calls Tryd.prog 19 #[av a A n c, av b A' n' c'] w fun e w' => e = .returned (.bool (Frm.sm a b)) ∧ Below w.heap.size w w' := by
  have hb := laterA (laterA (Below.refl w.heap.size w) (.cells #[.int .i64 a.d, .slice A n c, .bool a.mkd, .int .i64 a.e0, .int .i64 a.e1, .int .i64 a.e2] 25)) (.cells #[.int .i64 b.d, .slice A' n' c', .bool b.mkd, .int .i64 b.e0, .int .i64 b.e1, .int .i64 b.e2] 25)
  have hn := h.1
  have hn' := h'.1
  obtain ⟨d, rs, mkd, e0, e1, e2⟩ := a
  obtain ⟨d', rs', mkd', e0', e1', e2'⟩ := b
  unfold Frm.sm av
  simp only at hb hn hn' h h' ⊢
  have q3 := eq_arr3 e0 e1 e2 e0' e1' e2'
  replace hb := Lib.hid hb
  by_cases c0 : d = d'
  · subst c0
    have f0 : (d != d) = false := by simp
    rw [decide_eq_true (show d = d from rfl)]
    by_cases c1 : mkd = mkd'
    · subst c1
      have f1 : (mkd != mkd) = false := by simp
      rw [decide_eq_true (show mkd = mkd from rfl)]
      by_cases c2 : e0 = e0' ∧ e1 = e1' ∧ e2 = e2'
      · obtain ⟨rfl, rfl, rfl⟩ := c2
        have f2 : (e0 == e0 && (e1 == e1 && e2 == e2)) = true := by simp
        simp only [decide_true, Bool.true_and]
        rw [f2] at q3
        by_cases e : n = n'
        · subst e
          have ei : ((n : Int) != (n : Int)) = false := by simp
          have hx := (Blk.new w 25 #[.int .i64 d, .slice A n c, .bool mkd, .int .i64 e0, .int .i64 e1, .int .i64 e2]).alloc (.cells #[.int .i64 d, .slice A' n c', .bool mkd, .int .i64 e0, .int .i64 e1, .int .i64 e2] 25)
          have hy := Blk.new2 w (.cells #[.int .i64 d, .slice A n c, .bool mkd, .int .i64 e0, .int .i64 e1, .int .i64 e2] 25) 25 #[.int .i64 d, .slice A' n c', .bool mkd, .int .i64 e0, .int .i64 e1, .int .i64 e2]
          replace h := h.later hb.out
          replace h' := h'.later hb.out
          replace h := Lib.hid h
          replace h' := Lib.hid h'
          replace hx := Lib.hid hx
          replace hy := Lib.hid hy
          go_enter Tryd.func19, Tryd.ntmps19
          go_wp2_with fail
          obtain ⟨W, hW⟩ : ∃ W, (w.alloc (.cells #[.int .i64 d, .slice A n c, .bool mkd, .int .i64 e0, .int .i64 e1, .int .i64 e2] 25)).alloc (.cells #[.int .i64 d, .slice A' n c', .bool mkd, .int .i64 e0, .int .i64 e1, .int .i64 e2] 25) = W := ⟨_, rfl⟩
          rw [hW] at hb h h' hx hy ⊢
          clear hW
          have x1 := hx.out.cell 1
          have y1 := hy.out.cell 1
          simp at x1 y1
          clear hx hy
          go_loopw [5] (fun i wr => ∃ k q : Nat, i = .int .i64 (k : Int) ∧ k ≤ n ∧ rs.take k = rs'.take k ∧ wr = W.drewN q) (fun i _ => n - (intOf i).toNat)
          case atStart => exact ⟨0, 0, rfl, by omega, by simp, rfl⟩
          case round =>
            obtain ⟨k, q, rfl, hk, htk, rfl⟩ := hrel
            by_cases hlt : k < n
            · have hlt' : (k : Int) < (n : Int) := by omega
              have hwi : IntKind.i64.wrap ((k : Int) + 1) = (k : Int) + 1 := IntWalk.i64_in _ (by omega)
              obtain ⟨b1, o1, rfl, _, hc1⟩ := h.out.at (by omega)
              obtain ⟨b2, o2, rfl, _, hc2⟩ := h'.out.at (by omega)
              obtain ⟨x, hx⟩ : ∃ x, rs[k]? = some x := ⟨_, List.getElem?_eq_getElem (by omega)⟩
              obtain ⟨y, hy⟩ : ∃ y, rs'[k]? = some y := ⟨_, List.getElem?_eq_getElem (by omega)⟩
              obtain ⟨g0, g1⟩ := hc1 k x hx
              obtain ⟨z0, z1⟩ := hc2 k y hy
              clear hc1 hc2
              obtain ⟨p1, p2⟩ := x
              obtain ⟨u1, u2⟩ := y
              simp only at g0 g1 z0 z1
              have q2 := eq_rng p1 p2 u1 u2
              by_cases he : p1 = u1 ∧ p2 = u2
              · obtain ⟨rfl, rfl⟩ := he
                have htk2 : rs.take (k + 1) = rs'.take (k + 1) := by rw [List.take_add_one, List.take_add_one, hx, hy, htk]
                replace htk := Lib.hid htk
                replace hx := Lib.hid hx
                replace hy := Lib.hid hy
                replace htk2 := Lib.hid htk2
                go_wp2_with fail
                go_quiet (fail)
                go_wp2_with fail
                refine ⟨⟨k + 1, q + nq, by simp, by omega, htk2.out, rfl⟩, ?_⟩
                simp only [intOf]
                omega
              · have hne : (p1 == u1 && p2 == u2) = false := by
                  cases hh : (p1 == u1 && p2 == u2) with
                  | false => rfl
                  | true =>
                    simp only [Bool.and_eq_true, beq_iff_eq] at hh
                    exact absurd hh he
                have hrs : ¬ rs = rs' := fun hh => by
                  subst hh
                  rw [hx] at hy
                  injection hy with e1
                  injection e1 with e1 e2
                  exact he ⟨e1, e2⟩
                rw [hne] at q2
                clear he hne
                replace htk := Lib.hid htk
                replace hx := Lib.hid hx
                replace hy := Lib.hid hy
                replace hrs := Lib.hid hrs
                go_wp2_with fail
                go_quiet (fail)
                go_wp2
                go_ret
                exact ⟨by rw [decide_eq_false hrs.out]; rfl, laterNq (laterNq hb.out _) _⟩
            · have hlt' : ¬ (k : Int) < (n : Int) := by omega
              have hrs : rs = rs' := by
                have h1 := htk
                rwa [List.take_of_length_le (by omega), List.take_of_length_le (by omega)] at h1
              replace htk := Lib.hid htk
              replace hrs := Lib.hid hrs
              go_wp2
              go_ret
              exact ⟨by rw [decide_eq_true hrs.out]; rfl, laterNq hb.out _⟩
        · have ei : ((n : Int) != (n' : Int)) = true := by simpa using fun hh => e (by omega)
          have hrs : ¬ rs = rs' := fun hh => by
            rw [hh, hn'] at hn
            exact e hn.symm
          replace hrs := Lib.hid hrs
          clear hn hn' h h' e
          go_enter Tryd.func19, Tryd.ntmps19
          go_wp2
          go_ret
          exact ⟨by rw [decide_eq_false hrs.out]; rfl, hb.out⟩
      · have f2 : (e0 == e0' && (e1 == e1' && e2 == e2')) = false := by
          cases hh : (e0 == e0' && (e1 == e1' && e2 == e2')) with
          | false => rfl
          | true =>
            simp only [Bool.and_eq_true, beq_iff_eq] at hh
            exact absurd ⟨hh.1, hh.2.1, hh.2.2⟩ c2
        have f3 : (decide (e0 = e0') && decide (e1 = e1') && decide (e2 = e2')) = false := by
          cases hh : (decide (e0 = e0') && decide (e1 = e1') && decide (e2 = e2')) with
          | false => rfl
          | true =>
            simp only [Bool.and_eq_true, decide_eq_true_eq] at hh
            exact absurd ⟨hh.1.1, hh.1.2, hh.2⟩ c2
        rw [f2] at q3
        rw [f3]
        simp only [Bool.and_false, Bool.false_and]
        clear c2 f2 f3 h h'
        go_enter Tryd.func19, Tryd.ntmps19
        go_wp2
        go_ret
        exact ⟨rfl, hb.out⟩
    · have f1 : (mkd != mkd') = true := by simpa using c1
      rw [decide_eq_false c1]
      simp only [Bool.and_false, Bool.false_and]
      clear q3 h h'
      go_enter Tryd.func19, Tryd.ntmps19
      go_wp2
      go_ret
      exact ⟨rfl, hb.out⟩
  · have f0 : (d != d') = true := by simpa using c0
    rw [decide_eq_false c0]
    simp only [Bool.false_and]
    clear q3 h h'
    go_enter Tryd.func19, Tryd.ntmps19
    go_wp2
    go_ret
    exact ⟨rfl, hb.out⟩

/-- An ACK, cut. -/
def cutA (a : Frm.Ak) (m : Nat) : Frm.Ak := ⟨a.d, a.rs.take m, a.mkd, a.e0, a.e1, a.e2⟩
theorem cutA_idem (a : Frm.Ak) (m : Nat) : cutA (cutA a m) m = cutA a m := by simp [cutA, List.take_take]
def CutP (w0 : World) (a : Frm.Ak) (m : Nat) (e : Ending) (w' : World) : Prop :=
  ∃ A c, e = .returned (.agg #[.int .i64 a.d, .slice A m c, .bool a.mkd, .int .i64 a.e0, .int .i64 a.e1, .int .i64 a.e2]) ∧ Rg w' A m c a.rs ∧ (∀ x, A = some x → w0.heap.size ≤ x.block) ∧ Below w0.heap.size w0 w'
theorem cut_a (a : Frm.Ak) (A : Option Addr) (n c m : Nat) (w : World) (h : Rs w A n c a.rs) (hm : min n 260 = m) :
    Calls Tryd.prog 12 #[av a A n c] w (CutP w (cutA a m) m) :=
  (cut_any a A n c m w h hm).mono fun _ _ h => h
theorem encL_bys3 : ∀ (ns : List Int), (∀ n ∈ ns, Frm.isN n = true) → Oct.Bys (Frm.encL ns)
  | [], _ => fun x hx => by simp [Frm.encL] at hx
  | n :: t, h => fun x hx => by
    obtain ⟨h0, h1⟩ := (Frm.isN_iff n).1 (h n (by simp))
    simp only [Frm.encL, List.mem_append] at hx
    rcases hx with hx | hx
    · exact Oct.enc_bys (Oct.fits_size h0 h1).1 x hx
    · exact encL_bys3 t (fun y hy => h y (by simp [hy])) x hx
theorem bytes_bys3 (a : Frm.Ak) : Oct.Bys (Frm.bytes a).1 := by
  unfold Frm.bytes
  by_cases h : Frm.chk a = true
  · rw [if_pos h]
    intro x hx
    simp only [List.mem_cons] at hx
    rcases hx with rfl | hx
    · split <;> omega
    · exact encL_bys3 _ (nums_isN h) x hx
  · rw [if_neg h]
    intro x hx
    simp at hx
/-- Behind both cuts. -/
structure TellsAt (w W : World) (a b : Frm.Ak) (A : Option Addr) (m c : Nat) (A' : Option Addr) (m' c' : Nat) : Prop where
  x3 : Blk W w.heap.size 25 #[.int .i64 a.d, .slice A m c, .bool a.mkd, .int .i64 a.e0, .int .i64 a.e1, .int .i64 a.e2]
  x4 : Blk W (w.heap.size + 1) 25 #[.int .i64 b.d, .slice A' m' c', .bool b.mkd, .int .i64 b.e0, .int .i64 b.e1, .int .i64 b.e2]
  r1 : Rg W A m c a.rs
  r2 : Rg W A' m' c' b.rs
  low : Below w.heap.size w W
theorem TellsAt.drew {w W : World} {a b : Frm.Ak} {A : Option Addr} {m c : Nat} {A' : Option Addr} {m' c' : Nat} (h : TellsAt w W a b A m c A' m' c') : TellsAt w W.drew a b A m c A' m' c' :=
  ⟨h.x3.drew, h.x4.drew, h.r1.later (laterD_ (Below.refl _ _)), h.r2.later (laterD_ (Below.refl _ _)), laterD_ h.low⟩
section
variable {w W : World} {a b : Frm.Ak} {A : Option Addr} {m c : Nat} {A' : Option Addr} {m' c' : Nat} {u0 u1 u2 u3 u4 u5 t0 t1 t2 t3 t4 t5 : Value}
theorem tells_mk1 (h3 : Blk W w.heap.size 25 #[u0, u1, u2, u3, u4, u5]) (h4 : Blk W (w.heap.size + 1) 25 #[t0, t1, t2, t3, t4, t5]) (r1 : Rg W A m c a.rs) (r2 : Rg W A' m' c' b.rs) (f1 : ∀ x, A = some x → w.heap.size + 2 ≤ x.block) (f2 : ∀ x, A' = some x → w.heap.size + 2 ≤ x.block) (hl : Below w.heap.size w W) :
    TellsAt w (six (six W w.heap.size (.int .i64 a.d) (.slice A m c) (.bool a.mkd) (.int .i64 a.e0) (.int .i64 a.e1) (.int .i64 a.e2)) (w.heap.size + 1) (.int .i64 b.d) (.slice A' m' c') (.bool b.mkd) (.int .i64 b.e0) (.int .i64 b.e1) (.int .i64 b.e2)) a b A m c A' m' c' :=
  ⟨(six_blk h3).only six_only (by simp), six_blk (h4.only six_only (by simp)),
   (r1.only six_only (fun x hx => by have := f1 x hx; omega)).only six_only (fun x hx => by have := f1 x hx; omega),
   (r2.only six_only (fun x hx => by have := f2 x hx; omega)).only six_only (fun x hx => by have := f2 x hx; omega),
   only_old (only_old hl six_only (by rintro i rfl; exact Nat.le_refl _) hl.size) six_only (by rintro i rfl; exact Nat.le_succ _) (Nat.le_trans hl.size (six_only (w := W)).size)⟩
theorem tells_mk2 (h3 : Blk W w.heap.size 25 #[u0, u1, u2, u3, u4, u5]) (h4 : Blk W (w.heap.size + 1) 25 #[t0, t1, t2, t3, t4, t5]) (r1 : Rg W A m c a.rs) (r2 : Rg W A' m' c' b.rs) (f1 : ∀ x, A = some x → w.heap.size + 2 ≤ x.block) (f2 : ∀ x, A' = some x → w.heap.size + 2 ≤ x.block) (hl : Below w.heap.size w W) :
    TellsAt w (six (six W (w.heap.size + 1) (.int .i64 b.d) (.slice A' m' c') (.bool b.mkd) (.int .i64 b.e0) (.int .i64 b.e1) (.int .i64 b.e2)) w.heap.size (.int .i64 a.d) (.slice A m c) (.bool a.mkd) (.int .i64 a.e0) (.int .i64 a.e1) (.int .i64 a.e2)) a b A m c A' m' c' :=
  ⟨six_blk (h3.only six_only (by simp)), (six_blk h4).only six_only (by simp),
   (r1.only six_only (fun x hx => by have := f1 x hx; omega)).only six_only (fun x hx => by have := f1 x hx; omega),
   (r2.only six_only (fun x hx => by have := f2 x hx; omega)).only six_only (fun x hx => by have := f2 x hx; omega),
   only_old (only_old hl six_only (by rintro i rfl; exact Nat.le_succ _) hl.size) six_only (by rintro i rfl; exact Nat.le_refl _) (Nat.le_trans hl.size (six_only (w := W)).size)⟩
end

set_option maxHeartbeats 8000000 in
set_option maxRecDepth 100000 in
theorem ftells_any (a b : Frm.Ak) (A : Option Addr) (n c : Nat) (A' : Option Addr) (n' c' : Nat) (x : Int) (w : World) (hL : Lim w) (ha : Rs w A n c a.rs) (hb : Rs w A' n' c' b.rs) :
    Calls Tryd.prog 3 #[av a A n c, av b A' n' c', .int .i64 x] w fun e w' => e = .returned (.bool true) ∧ Below w.heap.size w w' := by
  obtain ⟨m, hm⟩ : ∃ m, min n 260 = m := ⟨_, rfl⟩
  obtain ⟨m', hm'⟩ : ∃ m, min n' 260 = m := ⟨_, rfl⟩
  have hm2 : m ≤ 260 := by omega
  have hm2' : m' ≤ 260 := by omega
  have hCa := fun W (h : Below w.heap.size w W) => cut_a a A n c m W (ha.later h) hm
  have hCb := fun W (h : Below w.heap.size w W) => cut_a b A' n' c' m' W (hb.later h) hm'
  have hid := cutA_idem a m
  obtain ⟨a1, ha1⟩ : ∃ a1, cutA a m = a1 := ⟨_, rfl⟩
  obtain ⟨b1, hb1⟩ : ∃ b1, cutA b m' = b1 := ⟨_, rfl⟩
  rw [ha1] at hCa hid
  rw [hb1] at hCb
  clear ha1 hb1 ha hb hm hm'
  unfold av at hCa hCb ⊢
  have hlow := laterA (laterA (Below.refl w.heap.size w) (.cells #[.int .i64 a.d, .slice A n c, .bool a.mkd, .int .i64 a.e0, .int .i64 a.e1, .int .i64 a.e2] 25)) (.cells #[.int .i64 b.d, .slice A' n' c', .bool b.mkd, .int .i64 b.e0, .int .i64 b.e1, .int .i64 b.e2] 25)
  have hx3 := (Blk.new w 25 #[.int .i64 a.d, .slice A n c, .bool a.mkd, .int .i64 a.e0, .int .i64 a.e1, .int .i64 a.e2]).alloc (.cells #[.int .i64 b.d, .slice A' n' c', .bool b.mkd, .int .i64 b.e0, .int .i64 b.e1, .int .i64 b.e2] 25)
  have hx4 := Blk.new2 w (.cells #[.int .i64 a.d, .slice A n c, .bool a.mkd, .int .i64 a.e0, .int .i64 a.e1, .int .i64 a.e2] 25) 25 #[.int .i64 b.d, .slice A' n' c', .bool b.mkd, .int .i64 b.e0, .int .i64 b.e1, .int .i64 b.e2]
  replace hL := Lib.hid hL
  replace hCa := Lib.hid hCa
  replace hCb := Lib.hid hCb
  replace hid := Lib.hid hid
  go_enter Tryd.func3, Tryd.ntmps3
  go_wp2_with fail
  have hsz : ((w.alloc (.cells #[.int .i64 a.d, .slice A n c, .bool a.mkd, .int .i64 a.e0, .int .i64 a.e1, .int .i64 a.e2] 25)).alloc (.cells #[.int .i64 b.d, .slice A' n' c', .bool b.mkd, .int .i64 b.e0, .int .i64 b.e1, .int .i64 b.e2] 25)).heap.size = w.heap.size + 2 := by simp
  obtain ⟨W0, hW0⟩ : ∃ W, (w.alloc (.cells #[.int .i64 a.d, .slice A n c, .bool a.mkd, .int .i64 a.e0, .int .i64 a.e1, .int .i64 a.e2] 25)).alloc (.cells #[.int .i64 b.d, .slice A' n' c', .bool b.mkd, .int .i64 b.e0, .int .i64 b.e1, .int .i64 b.e2] 25) = W := ⟨_, rfl⟩
  rw [hW0] at hx3 hx4 hlow hsz ⊢
  clear hW0
  rename_i K hK
  have hlowD := laterD_ hlow
  have hsz0 : w.heap.size + 2 ≤ W0.drew.heap.size := by show w.heap.size + 2 ≤ W0.heap.size; omega
  have p0 := hx3.cell 0
  have p1 := hx3.cell 1
  have p2 := hx3.cell 2
  have p3 := hx3.cell 3
  have p4 := hx3.cell 4
  have p5 := hx3.cell 5
  have o0 := hx4.cell 0
  have o1 := hx4.cell 1
  have o2 := hx4.cell 2
  have o3 := hx4.cell 3
  have o4 := hx4.cell 4
  have o5 := hx4.cell 5
  simp at p0 p1 p2 p3 p4 p5 o0 o1 o2 o3 o4 o5
  replace hsz0 := Lib.hid hsz0
  replace hlow := Lib.hid hlow
  replace hlowD := Lib.hid hlowD
  replace hx3 := Lib.hid hx3
  replace hx4 := Lib.hid hx4
  have rest : ∀ (A1 : Option Addr) (c1 : Nat) (A2 : Option Addr) (c2 : Nat) (W : World), TellsAt w W a1 b1 A1 m c1 A2 m' c2 → K { tmps := #[.agg #[.int .i64 a.d, .slice A n c, .bool a.mkd, .int .i64 a.e0, .int .i64 a.e1, .int .i64 a.e2], .agg #[.int .i64 b.d, .slice A' n' c', .bool b.mkd, .int .i64 b.e0, .int .i64 b.e1, .int .i64 b.e2], .int .i64 x, .pointer (some ⟨w.heap.size, 0, none⟩), .pointer (some ⟨w.heap.size + 1, 0, none⟩), undef, .bool false, undef, undef, undef, undef, undef, undef, undef, .agg #[.int .i64 a.d, .slice A n c, .bool a.mkd, .int .i64 a.e0, .int .i64 a.e1, .int .i64 a.e2], .agg #[.int .i64 a1.d, .slice A1 m c1, .bool a1.mkd, .int .i64 a1.e0, .int .i64 a1.e1, .int .i64 a1.e2], .agg #[.int .i64 b.d, .slice A' n' c', .bool b.mkd, .int .i64 b.e0, .int .i64 b.e1, .int .i64 b.e2], .agg #[.int .i64 b1.d, .slice A2 m' c2, .bool b1.mkd, .int .i64 b1.e0, .int .i64 b1.e1, .int .i64 b1.e2], undef, undef, undef, undef, undef, undef, undef, undef, undef, undef, undef, undef, undef, undef, undef, undef, undef, undef, undef, undef, undef, undef, undef, undef, undef, undef, undef, undef, undef, undef, undef, undef, undef, undef, undef, undef, undef, undef, undef, undef, undef, undef, undef, undef, undef, undef, undef, undef, undef, undef, undef, undef, undef, undef, undef, undef, undef, undef, undef, undef, undef, undef, undef, undef, undef, undef, undef, undef, undef, undef, undef, undef, undef, undef, undef, undef], defers := [] } W := by
    intro A1 c1 A2 c2 W hT
    refine hK _ _ ?_
    obtain ⟨x3, x4, r1, r2, low⟩ := hT
    have hC := cut_a a1 A1 m c1 m W (r1.rs (by omega)) (by omega)
    rw [hid.out] at hC
    unfold av at hC
    replace x3 := Lib.hid x3
    replace x4 := Lib.hid x4
    replace r1 := Lib.hid r1
    replace r2 := Lib.hid r2
    replace low := Lib.hid low
    have p0 := x3.out.cell 0
    have p1 := x3.out.cell 1
    have p2 := x3.out.cell 2
    have p3 := x3.out.cell 3
    have p4 := x3.out.cell 4
    have p5 := x3.out.cell 5
    simp at p0 p1 p2 p3 p4 p5
    go_wp2_with fail
    with_reducible refine hC.mono ?_
    clear hC p0 p1 p2 p3 p4 p5
    (try clear hu)
    rintro e v1 ⟨A3, c3, rfl, r3, _, hb⟩
    replace x3 := Lib.hid (x3.out.later hb)
    replace x4 := Lib.hid (x4.out.later hb)
    replace r1 := Lib.hid (r1.out.later hb)
    replace r2 := Lib.hid (r2.out.later hb)
    replace low := Lib.hid (old_later2 low.out hb low.out.size)
    replace r3 := Lib.hid (r3.later (Below.refl _ _))
    have x7 := Blk.new v1 25 #[.int .i64 a1.d, .slice A3 m c3, .bool a1.mkd, .int .i64 a1.e0, .int .i64 a1.e1, .int .i64 a1.e2]
    clear hb
    have hb := laterA (Below.refl v1.heap.size v1) (.cells #[.int .i64 a1.d, .slice A3 m c3, .bool a1.mkd, .int .i64 a1.e0, .int .i64 a1.e1, .int .i64 a1.e2] 25)
    replace x3 := Lib.hid (x3.out.later hb)
    replace x4 := Lib.hid (x4.out.later hb)
    replace r1 := Lib.hid (r1.out.later hb)
    replace r2 := Lib.hid (r2.out.later hb)
    replace r3 := Lib.hid (r3.out.later hb)
    replace low := Lib.hid (old_later2 low.out hb low.out.size)
    obtain ⟨u1, hu⟩ : ∃ W, v1.alloc (.cells #[.int .i64 a1.d, .slice A3 m c3, .bool a1.mkd, .int .i64 a1.e0, .int .i64 a1.e1, .int .i64 a1.e2] 25) = W := ⟨_, rfl⟩
    replace x7 := Lib.hid x7
    rw [hu] at x3 x4 r1 r2 r3 x7 low
    clear hb
    have hC := bytes_any a1 A1 m c1 u1 (hL.out.later low.out) r1.out (by omega)
    obtain ⟨L, eL, hY⟩ : ∃ L e, Frm.bytes a1 = (L, e) := ⟨_, _, rfl⟩
    rw [hY] at hC
    unfold av at hC
    have p0 := x3.out.cell 0
    have p1 := x3.out.cell 1
    have p2 := x3.out.cell 2
    have p3 := x3.out.cell 3
    have p4 := x3.out.cell 4
    have p5 := x3.out.cell 5
    simp at p0 p1 p2 p3 p4 p5
    go_wp2_with fail
    with_reducible refine hC.mono ?_
    clear hC p0 p1 p2 p3 p4 p5
    (try clear hu)
    rintro e v2 ⟨q1, A4, c4, rfl, s1, hb⟩
    replace x3 := Lib.hid (x3.out.later hb)
    replace x4 := Lib.hid (x4.out.later hb)
    replace r1 := Lib.hid (r1.out.later hb)
    replace r2 := Lib.hid (r2.out.later hb)
    replace r3 := Lib.hid (r3.out.later hb)
    replace x7 := Lib.hid (x7.out.later hb)
    replace low := Lib.hid (old_later2 low.out hb low.out.size)
    simp only at s1 ⊢
    clear hb
    replace s1 := Lib.hid s1
    have hC := rbytes_any a1 A3 m c3 v2 r3.out (by omega)
    rw [hY] at hC
    unfold av at hC
    have p0 := x7.out.cell 0
    have p1 := x7.out.cell 1
    have p2 := x7.out.cell 2
    have p3 := x7.out.cell 3
    have p4 := x7.out.cell 4
    have p5 := x7.out.cell 5
    simp at p0 p1 p2 p3 p4 p5
    go_wp2_with fail
    with_reducible refine hC.mono ?_
    clear hC p0 p1 p2 p3 p4 p5
    (try clear hu)
    rintro e v3 ⟨q2, A5, c5, rfl, s2, hb⟩
    replace x3 := Lib.hid (x3.out.later hb)
    replace x4 := Lib.hid (x4.out.later hb)
    replace r1 := Lib.hid (r1.out.later hb)
    replace r2 := Lib.hid (r2.out.later hb)
    replace r3 := Lib.hid (r3.out.later hb)
    replace x7 := Lib.hid (x7.out.later hb)
    replace s1 := Lib.hid (s1.out.later hb)
    replace low := Lib.hid (old_later2 low.out hb low.out.size)
    simp only at s2 ⊢
    clear hb
    replace s2 := Lib.hid s2
    obtain ⟨RR, hRR⟩ : ∃ R : Int, (if Frm.chk a1 = true then 0 else 2) = R := ⟨_, rfl⟩
    obtain ⟨SM, hSM⟩ : ∃ S, Frm.sm a1 b1 = S := ⟨_, rfl⟩
    obtain ⟨HS, hHS⟩ : ∃ S, Frm.has a1 x = S := ⟨_, rfl⟩
    have k1 := fun d os => check_any a1 A1 m c1 (grow (redrawn v3 d) os) (r1.out.later (below_regrown _ _ _)) (by omega)
    have k2 := fun d os => rcheck_any a1 A3 m c3 (grow (redrawn v3 d) os) (r3.out.later (below_regrown _ _ _)) (by omega)
    have hbys : Oct.Bys L := by
      have h1 : (Frm.bytes a1).1 = L := by rw [hY]
      rw [← h1]
      exact bytes_bys3 a1
    have k3 := fun d os => same_below (eqb_same (w := (grow (redrawn v3 d) os)) (s1.out.later (below_regrown _ _ _)).rb (s2.out.later (below_regrown _ _ _)).rb hbys)
    have k4 := fun d os => fsame_any a1 b1 A1 A2 m c1 m' c2 (grow (redrawn v3 d) os) (r1.out.later (below_regrown _ _ _)) (r2.out.later (below_regrown _ _ _)) (by omega)
    have k5 := fun d os => tsame_any a1 b1 A3 A2 m c3 m' c2 (grow (redrawn v3 d) os) (r3.out.later (below_regrown _ _ _)) (r2.out.later (below_regrown _ _ _)) (by omega)
    have k6 := fun d os => fhas1_any a1 A1 m c1 x (grow (redrawn v3 d) os) (r1.out.later (below_regrown _ _ _)) (by omega)
    have k7 := fun d os => rhas_any a1 A3 m c3 x (grow (redrawn v3 d) os) (r3.out.later (below_regrown _ _ _)) (by omega)
    unfold ChkPost at k1 k2
    unfold av at k1 k2 k4 k5 k6 k7
    simp only [hRR] at k1 k2
    simp only [hSM] at k4 k5
    simp only [hHS] at k6 k7
    have e1 : (RR != RR) = false := by simp
    have e2 : (eL != eL) = false := by simp
    have e3 : (SM != SM) = false := by simp
    have e4 : (HS != HS) = false := by simp
    have p0 := fun d os => (x3.out.grow d os).cell 0
    have p1 := fun d os => (x3.out.grow d os).cell 1
    have p2 := fun d os => (x3.out.grow d os).cell 2
    have p3 := fun d os => (x3.out.grow d os).cell 3
    have p4 := fun d os => (x3.out.grow d os).cell 4
    have p5 := fun d os => (x3.out.grow d os).cell 5
    have o0 := fun d os => (x4.out.grow d os).cell 0
    have o1 := fun d os => (x4.out.grow d os).cell 1
    have o2 := fun d os => (x4.out.grow d os).cell 2
    have o3 := fun d os => (x4.out.grow d os).cell 3
    have o4 := fun d os => (x4.out.grow d os).cell 4
    have o5 := fun d os => (x4.out.grow d os).cell 5
    have y0 := fun d os => (x7.out.grow d os).cell 0
    have y1 := fun d os => (x7.out.grow d os).cell 1
    have y2 := fun d os => (x7.out.grow d os).cell 2
    have y3 := fun d os => (x7.out.grow d os).cell 3
    have y4 := fun d os => (x7.out.grow d os).cell 4
    have y5 := fun d os => (x7.out.grow d os).cell 5
    simp at p0 p1 p2 p3 p4 p5 o0 o1 o2 o3 o4 o5 y0 y1 y2 y3 y4 y5
    replace k1 := Lib.hid k1
    replace k2 := Lib.hid k2
    replace k3 := Lib.hid k3
    replace k4 := Lib.hid k4
    replace k5 := Lib.hid k5
    replace k6 := Lib.hid k6
    replace k7 := Lib.hid k7
    clear hRR hSM hHS hbys
    go_wp2_with fail
    refine wp_region_quiet_below (by kernel_rfl) (by kernel_rfl) ?_
    repeat (go_big_quiet_step ((first | (go_at_call 15; with_reducible exact Calls.regrown_of (k1.out _ _)) | (go_at_call 16; with_reducible exact Calls.regrown_of (k2.out _ _)) | (go_at_call 17; with_reducible exact Calls.regrown_of (k3.out _ _)) | (go_at_call 18; with_reducible exact Calls.regrown_of (k4.out _ _)) | (go_at_call 19; with_reducible exact Calls.regrown_of (k5.out _ _)) | (go_at_call 20; with_reducible exact Calls.regrown_of (k6.out _ _)) | (go_at_call 21; with_reducible exact Calls.regrown_of (k7.out _ _)))))
    refine wpQuiet_nil ?_
    intro wq hw'
    obtain ⟨⟨dq, osq⟩, hw''⟩ := hw'
    have hbq := regrown_below hw''
    clear hw'' dq osq
    clear k1 k2 k3 k4 k5 k6 k7 e1 e2 e3 e4 p0 p1 p2 p3 p4 p5 o0 o1 o2 o3 o4 o5 y0 y1 y2 y3 y4 y5
    have hb := hbq
    clear hbq
    replace x3 := Lib.hid (x3.out.later hb)
    replace x4 := Lib.hid (x4.out.later hb)
    replace r1 := Lib.hid (r1.out.later hb)
    replace r2 := Lib.hid (r2.out.later hb)
    replace r3 := Lib.hid (r3.out.later hb)
    replace x7 := Lib.hid (x7.out.later hb)
    replace s1 := Lib.hid (s1.out.later hb)
    replace s2 := Lib.hid (s2.out.later hb)
    replace low := Lib.hid (old_later2 low.out hb low.out.size)
    clear hb
    have hC := fcopy_any a1 A1 m c1 wq (r1.out.rs (by omega))
    unfold av at hC
    have p0 := x3.out.cell 0
    have p1 := x3.out.cell 1
    have p2 := x3.out.cell 2
    have p3 := x3.out.cell 3
    have p4 := x3.out.cell 4
    have p5 := x3.out.cell 5
    simp at p0 p1 p2 p3 p4 p5
    have hlw := Lib.hid (Below.refl wq.heap.size wq)
    go_wp2_with fail
    with_reducible refine hC.mono ?_
    clear hC p0 p1 p2 p3 p4 p5
    (try clear hu)
    rintro e v4 ⟨A9, c9, rfl, own, hb⟩
    simp only [av]
    replace own := Lib.hid own
    replace hlw := Lib.hid (old_later2 hlw.out hb hlw.out.size)
    have y3 := Lib.hid (x3.out.later hb)
    have y7 := Lib.hid (x7.out.later hb)
    have z1 := Lib.hid (r1.out.later hb)
    have z3 := Lib.hid (r3.out.later hb)
    clear hb
    have x12 := Blk.new v4 25 #[.int .i64 a1.d, .slice A9 m c9, .bool a1.mkd, .int .i64 a1.e0, .int .i64 a1.e1, .int .i64 a1.e2]
    have hb := laterA (Below.refl v4.heap.size v4) (.cells #[.int .i64 a1.d, .slice A9 m c9, .bool a1.mkd, .int .i64 a1.e0, .int .i64 a1.e1, .int .i64 a1.e2] 25)
    replace y3 := Lib.hid (y3.out.later hb)
    replace y7 := Lib.hid (y7.out.later hb)
    replace z1 := Lib.hid (z1.out.later hb)
    replace z3 := Lib.hid (z3.out.later hb)
    replace own := Lib.hid (own.out.later hb)
    replace hlw := Lib.hid (old_later2 hlw.out hb hlw.out.size)
    obtain ⟨u4, hu⟩ : ∃ W, v4.alloc (.cells #[.int .i64 a1.d, .slice A9 m c9, .bool a1.mkd, .int .i64 a1.e0, .int .i64 a1.e1, .int .i64 a1.e2] 25) = W := ⟨_, rfl⟩
    replace x12 := Lib.hid x12
    rw [hu] at y3 y7 z1 z3 own x12 hlw
    clear hb
    obtain ⟨A8, c8, hA8, ro, _⟩ := own.out.rg
    injection hA8 with hA8 hA82 hA83
    subst hA8 hA83
    rw [← hA82] at ro
    clear hA82
    have hC := tsame_any a1 a1 A9 A3 m c9 m c3 u4 ro z3.out (by omega)
    rw [(Frm.sm_iff a1 a1).2 rfl] at hC
    unfold av at hC
    replace ro := Lib.hid ro
    have p0 := x12.out.cell 0
    have p1 := x12.out.cell 1
    have p2 := x12.out.cell 2
    have p3 := x12.out.cell 3
    have p4 := x12.out.cell 4
    have p5 := x12.out.cell 5
    have o0 := y7.out.cell 0
    have o1 := y7.out.cell 1
    have o2 := y7.out.cell 2
    have o3 := y7.out.cell 3
    have o4 := y7.out.cell 4
    have o5 := y7.out.cell 5
    simp at p0 p1 p2 p3 p4 p5 o0 o1 o2 o3 o4 o5
    go_wp2_with fail
    with_reducible refine hC.mono ?_
    clear hC p0 p1 p2 p3 p4 p5 o0 o1 o2 o3 o4 o5 ro
    (try clear hu)
    rintro e v5 ⟨rfl, hb⟩
    replace y3 := Lib.hid (y3.out.later hb)
    replace y7 := Lib.hid (y7.out.later hb)
    replace z1 := Lib.hid (z1.out.later hb)
    replace z3 := Lib.hid (z3.out.later hb)
    replace own := Lib.hid (own.out.later hb)
    replace x12 := Lib.hid (x12.out.later hb)
    replace hlw := Lib.hid (old_later2 hlw.out hb hlw.out.size)
    clear hb
    have hC := fsame_any a1 a1 A1 A3 m c1 m c3 v5 z1.out z3.out (by omega)
    rw [(Frm.sm_iff a1 a1).2 rfl] at hC
    unfold av at hC
    have p0 := y3.out.cell 0
    have p1 := y3.out.cell 1
    have p2 := y3.out.cell 2
    have p3 := y3.out.cell 3
    have p4 := y3.out.cell 4
    have p5 := y3.out.cell 5
    have o0 := y7.out.cell 0
    have o1 := y7.out.cell 1
    have o2 := y7.out.cell 2
    have o3 := y7.out.cell 3
    have o4 := y7.out.cell 4
    have o5 := y7.out.cell 5
    simp at p0 p1 p2 p3 p4 p5 o0 o1 o2 o3 o4 o5
    go_wp2_with fail
    with_reducible refine hC.mono ?_
    clear hC p0 p1 p2 p3 p4 p5 o0 o1 o2 o3 o4 o5
    (try clear hu)
    rintro e v6 ⟨rfl, hb⟩
    replace y3 := Lib.hid (y3.out.later hb)
    replace y7 := Lib.hid (y7.out.later hb)
    replace z1 := Lib.hid (z1.out.later hb)
    replace z3 := Lib.hid (z3.out.later hb)
    replace own := Lib.hid (own.out.later hb)
    replace x12 := Lib.hid (x12.out.later hb)
    replace hlw := Lib.hid (old_later2 hlw.out hb hlw.out.size)
    clear hb
    have hob : m = 0 ∨ ∃ g cs, A9 = some ⟨g, 0, none⟩ ∧ Blk v6 g 36 cs ∧ 2 * m ≤ cs.size ∧ wq.heap.size ≤ g := by
      obtain ⟨h1, ⟨h2, h3⟩ | ⟨g, cap, cur, h2, h3, h4, h5, _, h6, _⟩⟩ := own.out
      · left
        injection h2
      · right
        injection h2 with h2 h7 _
        exact ⟨g, cur, h2, h4, by omega, h3⟩
    replace hob := Lib.hid hob
    clear y3 y7 z1 z3 own
    go_wp2_with fail
    go_loopw [13] (fun iv wr => ∃ k : Nat, iv = .int .i64 (k : Int) ∧ k ≤ m ∧ Below wq.heap.size wq wr ∧ Blk wr v4.heap.size 25 #[.int .i64 a1.d, .slice A9 m c9, .bool a1.mkd, .int .i64 a1.e0, .int .i64 a1.e1, .int .i64 a1.e2] ∧ (m = 0 ∨ ∃ g cs, A9 = some ⟨g, 0, none⟩ ∧ Blk wr g 36 cs ∧ 2 * m ≤ cs.size ∧ wq.heap.size ≤ g)) (fun iv _ => m - (intOf iv).toNat)
    case atStart => exact ⟨0, rfl, Nat.zero_le _, hlw.out, x12.out, hob.out⟩
    case round =>
      obtain ⟨k, rfl, hk, hl9, hx9, ho9⟩ := hrel
      have c1' := hx9.cell 1
      simp at c1'
      by_cases hlt : k < m
      · have hki : (k : Int) < (m : Int) := by omega
        have hwk : IntKind.i64.wrap ((k : Int) + 1) = (k : Int) + 1 := IntWalk.i64_in _ (by omega)
        obtain ⟨g, cs, rfl, hg, hcs, hge⟩ : ∃ g cs, A9 = some ⟨g, 0, none⟩ ∧ Blk wr g 36 cs ∧ 2 * m ≤ cs.size ∧ wq.heap.size ≤ g := by
          rcases ho9 with h | h
          · omega
          · exact h
        obtain ⟨v, hv⟩ : ∃ v, cs[k * 2]? = some v := ⟨_, Array.getElem?_eq_getElem (by omega)⟩
        have y0 := (hg.cell (k * 2)).trans hv
        have f0 := hg.frozen (k * 2)
        have hne : v4.heap.size ≠ g := Blk.ne_ hx9 hg (by decide)
        have hl10 := below_wr hl9 hge (k * 2) (.int .i64 (-9))
        have hx10 := hx9.far (p := ⟨g, k * 2, none⟩) hne (.int .i64 (-9))
        have hg10 := hg.set_ (k * 2) (.int .i64 (-9))
        have hsz10 : 2 * m ≤ (cs.setIfInBounds (k * 2) (.int .i64 (-9))).size := by rw [Array.size_setIfInBounds]; exact hcs
        replace hne := Lib.hid hne
        clear ho9 hv
        replace hl9 := Lib.hid hl9
        replace hx9 := Lib.hid hx9
        replace hg := Lib.hid hg
        replace hl10 := Lib.hid hl10
        replace hx10 := Lib.hid hx10
        replace hg10 := Lib.hid hg10
        replace hcs := Lib.hid hcs
        replace hge := Lib.hid hge
        replace hsz10 := Lib.hid hsz10
        go_wp2_with fail
        refine ⟨⟨k + 1, by simp, by omega, hl10.out, hx10.out, .inr ⟨g, _, rfl, hg10.out, hsz10.out, hge.out⟩⟩, ?_⟩
        simp only [intOf]
        omega
      · obtain rfl : m = k := by omega
        have hki : ¬ (m : Int) < (m : Int) := by omega
        have hb := hl9
        clear hx9 ho9
        replace hl9 := Lib.hid hl9
        replace x3 := Lib.hid (x3.out.later hb)
        replace x7 := Lib.hid (x7.out.later hb)
        replace r1 := Lib.hid (r1.out.later hb)
        replace r3 := Lib.hid (r3.out.later hb)
        replace low := Lib.hid (old_later2 low.out hb low.out.size)
        clear hb
        have hC := tsame_any a1 a1 A1 A3 m c1 m c3 wr r1.out r3.out (by omega)
        rw [(Frm.sm_iff a1 a1).2 rfl] at hC
        unfold av at hC
        have p0 := x3.out.cell 0
        have p1 := x3.out.cell 1
        have p2 := x3.out.cell 2
        have p3 := x3.out.cell 3
        have p4 := x3.out.cell 4
        have p5 := x3.out.cell 5
        have o0 := x7.out.cell 0
        have o1 := x7.out.cell 1
        have o2 := x7.out.cell 2
        have o3 := x7.out.cell 3
        have o4 := x7.out.cell 4
        have o5 := x7.out.cell 5
        simp at p0 p1 p2 p3 p4 p5 o0 o1 o2 o3 o4 o5
        go_wp2_with fail
        with_reducible refine hC.mono ?_
        clear hC p0 p1 p2 p3 p4 p5 o0 o1 o2 o3 o4 o5
        (try clear hu)
        rintro e v7 ⟨rfl, hb⟩
        replace low := Lib.hid (old_later2 low.out hb low.out.size)
        clear hb
        have hC := fworks_any v7 (hL.out.later low.out)
        go_wp2_with fail
        with_reducible refine hC.mono ?_
        clear hC
        rintro e v8 ⟨rfl, hb⟩
        replace low := Lib.hid (old_later2 low.out hb low.out.size)
        clear hb
        go_wp2
        go_ret
        exact ⟨rfl, low.out⟩
  clear hK
  replace rest := Lib.hid rest
  go_region_with (first | (go_at_call 12; (with_reducible refine (hCa.out W0.drew hlowD.out).mono ?_); rintro e w1 ⟨A1, c1, rfl, r1, fr1, hb⟩; have hx31 := hx3.out.drew.later hb; have hx41 := hx4.out.drew.later hb; have hl1 := old_later2 hlowD.out hb (hlowD.out).size; replace fr1 : ∀ x, A1 = some x → w.heap.size + 2 ≤ x.block := fun x hx => Nat.le_trans hsz0.out (fr1 x hx); have hsz1 := Lib.hid (Nat.le_trans hsz0.out hb.size); clear hb; have p0 := hx31.cell 0; have p1 := hx31.cell 1; have p2 := hx31.cell 2; have p3 := hx31.cell 3; have p4 := hx31.cell 4; have p5 := hx31.cell 5; have o0 := hx41.cell 0; have o1 := hx41.cell 1; have o2 := hx41.cell 2; have o3 := hx41.cell 3; have o4 := hx41.cell 4; have o5 := hx41.cell 5; have q0 := hx31.frozen 0; have q1 := hx31.frozen 1; have q2 := hx31.frozen 2; have q3 := hx31.frozen 3; have q4 := hx31.frozen 4; have q5 := hx31.frozen 5; have s0 := hx41.frozen 0; have s1 := hx41.frozen 1; have s2 := hx41.frozen 2; have s3 := hx41.frozen 3; have s4 := hx41.frozen 4; have s5 := hx41.frozen 5; simp at p0 p1 p2 p3 p4 p5 o0 o1 o2 o3 o4 o5; replace r1 := Lib.hid r1; replace fr1 := Lib.hid fr1; replace hx31 := Lib.hid hx31; replace hx41 := Lib.hid hx41; replace hl1 := Lib.hid hl1) | (go_at_call 12; (with_reducible refine (hCb.out w1 hl1.out).mono ?_); rintro e w2 ⟨A2, c2, rfl, r2, fr2, hb⟩; have hx32 := hx31.out.later hb; have hx42 := hx41.out.later hb; have hl2 := old_later2 hl1.out hb (hl1.out).size; replace r1 := Lib.hid (r1.out.later hb); replace fr2 : ∀ x, A2 = some x → w.heap.size + 2 ≤ x.block := fun x hx => Nat.le_trans hsz1.out (fr2 x hx); clear hb; have p0 := hx32.cell 0; have p1 := hx32.cell 1; have p2 := hx32.cell 2; have p3 := hx32.cell 3; have p4 := hx32.cell 4; have p5 := hx32.cell 5; have o0 := hx42.cell 0; have o1 := hx42.cell 1; have o2 := hx42.cell 2; have o3 := hx42.cell 3; have o4 := hx42.cell 4; have o5 := hx42.cell 5; have q0 := hx32.frozen 0; have q1 := hx32.frozen 1; have q2 := hx32.frozen 2; have q3 := hx32.frozen 3; have q4 := hx32.frozen 4; have q5 := hx32.frozen 5; have s0 := hx42.frozen 0; have s1 := hx42.frozen 1; have s2 := hx42.frozen 2; have s3 := hx42.frozen 3; have s4 := hx42.frozen 4; have s5 := hx42.frozen 5; simp at p0 p1 p2 p3 p4 p5 o0 o1 o2 o3 o4 o5; replace r2 := Lib.hid r2; replace fr2 := Lib.hid fr2; replace hx32 := Lib.hid hx32; replace hx42 := Lib.hid hx42; replace hl2 := Lib.hid hl2) | (go_at_call 12; (with_reducible refine (hCb.out W0.drew hlowD.out).mono ?_); rintro e w1 ⟨A2, c2, rfl, r2, fr2, hb⟩; have hx31 := hx3.out.drew.later hb; have hx41 := hx4.out.drew.later hb; have hl1 := old_later2 hlowD.out hb (hlowD.out).size; replace fr2 : ∀ x, A2 = some x → w.heap.size + 2 ≤ x.block := fun x hx => Nat.le_trans hsz0.out (fr2 x hx); have hsz1 := Lib.hid (Nat.le_trans hsz0.out hb.size); clear hb; have p0 := hx31.cell 0; have p1 := hx31.cell 1; have p2 := hx31.cell 2; have p3 := hx31.cell 3; have p4 := hx31.cell 4; have p5 := hx31.cell 5; have o0 := hx41.cell 0; have o1 := hx41.cell 1; have o2 := hx41.cell 2; have o3 := hx41.cell 3; have o4 := hx41.cell 4; have o5 := hx41.cell 5; have q0 := hx31.frozen 0; have q1 := hx31.frozen 1; have q2 := hx31.frozen 2; have q3 := hx31.frozen 3; have q4 := hx31.frozen 4; have q5 := hx31.frozen 5; have s0 := hx41.frozen 0; have s1 := hx41.frozen 1; have s2 := hx41.frozen 2; have s3 := hx41.frozen 3; have s4 := hx41.frozen 4; have s5 := hx41.frozen 5; simp at p0 p1 p2 p3 p4 p5 o0 o1 o2 o3 o4 o5; replace r2 := Lib.hid r2; replace fr2 := Lib.hid fr2; replace hx31 := Lib.hid hx31; replace hx41 := Lib.hid hx41; replace hl1 := Lib.hid hl1) | (go_at_call 12; (with_reducible refine (hCa.out w1 hl1.out).mono ?_); rintro e w2 ⟨A1, c1, rfl, r1, fr1, hb⟩; have hx32 := hx31.out.later hb; have hx42 := hx41.out.later hb; have hl2 := old_later2 hl1.out hb (hl1.out).size; replace r2 := Lib.hid (r2.out.later hb); replace fr1 : ∀ x, A1 = some x → w.heap.size + 2 ≤ x.block := fun x hx => Nat.le_trans hsz1.out (fr1 x hx); clear hb; have p0 := hx32.cell 0; have p1 := hx32.cell 1; have p2 := hx32.cell 2; have p3 := hx32.cell 3; have p4 := hx32.cell 4; have p5 := hx32.cell 5; have o0 := hx42.cell 0; have o1 := hx42.cell 1; have o2 := hx42.cell 2; have o3 := hx42.cell 3; have o4 := hx42.cell 4; have o5 := hx42.cell 5; have q0 := hx32.frozen 0; have q1 := hx32.frozen 1; have q2 := hx32.frozen 2; have q3 := hx32.frozen 3; have q4 := hx32.frozen 4; have q5 := hx32.frozen 5; have s0 := hx42.frozen 0; have s1 := hx42.frozen 1; have s2 := hx42.frozen 2; have s3 := hx42.frozen 3; have s4 := hx42.frozen 4; have s5 := hx42.frozen 5; simp at p0 p1 p2 p3 p4 p5 o0 o1 o2 o3 o4 o5; replace r1 := Lib.hid r1; replace fr1 := Lib.hid fr1; replace hx32 := Lib.hid hx32; replace hx42 := Lib.hid hx42; replace hl2 := Lib.hid hl2))
  all_goals (refine rest.out A1 c1 A2 c2 _ ?_; exact tells_mk1 hx32.out hx42.out r1.out r2.out fr1.out fr2.out hl2.out)
/-! ### An ACK that came in -/
theorem int_of {v : Value} {x : Int} (h : v = .int .i64 x) : v = .int .i64 (intOf v) := by subst h; rfl
set_option maxRecDepth 100000 in
theorem open_ack {H : Type} {enc : TypeId × Value → H} {w : World} {r : Reach} {b0 : Nat} {v : Value} {d : DataW H} {p : List MemPlace}
    (hv : Value.okWide Tryd.prog w r b0 25 v) (h : DataW.Trod enc Tryd.prog w 0 (fun _ => true) true 25 v d p) :
    ∃ (a : Frm.Ak) (A : Option Addr) (n c : Nat), v = av a A n c ∧ ((∀ k ∈ d.weights Tryd.prog 25, k ≤ reachBytes) → Rs w A n c a.rs) := by
  obtain ⟨cs, rfl, hsz⟩ := okWide_struct Tryd.underlying25 hv
  have hC : Tryd.prog.cellsOf 25 = 6 := by kernel_rfl
  have hI : Tryd.prog.cellsOf 3 = 1 := by kernel_rfl
  have hS : Tryd.prog.cellsOf 22 = 1 := by kernel_rfl
  have hB : Tryd.prog.cellsOf 4 = 1 := by kernel_rfl
  have hA : Tryd.prog.cellsOf 23 = 3 := by kernel_rfl
  rw [hC] at hsz
  obtain ⟨c0, c1, c2, c3, c4, c5, rfl⟩ : ∃ c0 c1 c2 c3 c4 c5, cs = #[c0, c1, c2, c3, c4, c5] := by
    obtain ⟨l⟩ := cs
    simp at hsz
    match l, hsz with
    | [a, b, c, d, e, f], _ => exact ⟨a, b, c, d, e, f, rfl⟩
  obtain ⟨fuel, hf⟩ := h
  obtain ⟨xs, n, _, hx, _, hxl, hg⟩ := DataW.trod_struct Tryd.underlying25 hf
  have g0 := hg 0 _ rfl
  have g1 := hg 1 _ rfl
  have g2 := hg 2 _ rfl
  have g3 := hg 3 _ rfl
  match xs, hxl with
  | [y0, y1, y2, y3], _ =>
    simp [Value.cells, hI, hS, hB, hA] at g0 g1 g2 g3
    obtain ⟨a, e0, _, _⟩ := DataW.trod_int Tryd.underlying3 g0
    obtain ⟨b, e2, _⟩ := DataW.trod_bool Tryd.underlying4 g2
    obtain ⟨zs, m', _, _, _, hzl, hz⟩ := DataW.trod_array Tryd.underlying23 g3
    have z0 := hz 0 (by omega)
    have z1 := hz 1 (by omega)
    have z2 := hz 2 (by omega)
    match zs, hzl with
    | [q0, q1, q2], _ =>
      simp [hI] at z0 z1 z2 e0 e2
      obtain ⟨x0, f0, _, _⟩ := DataW.trod_int Tryd.underlying3 z0
      obtain ⟨x1, f1, _, _⟩ := DataW.trod_int Tryd.underlying3 z1
      obtain ⟨x2, f2, _, _⟩ := DataW.trod_int Tryd.underlying3 z2
      simp at f0 f1 f2
      subst e0 e2 f0 f1 f2
      rcases open_slice_pairs Tryd.underlying22 Tryd.underlying36 (by kernel_rfl) rfl rfl (by kernel_rfl) (by kernel_rfl) g1 with ⟨hc, _⟩ | ⟨ad, len, cap, m, n', V0, V1, D0, D1, P0, P1, hc, _, hl, hm, hmm, hxx, hat⟩
      · simp at hc
        subst hc
        exact ⟨⟨a, [], b, x0, x1, x2⟩, none, 0, 0, rfl, fun _ => ⟨rfl, Nat.le_refl _, by simp [maxLen], by simp, .inl ⟨rfl, rfl, rfl⟩⟩⟩
      · simp at hc
        subst hc
        refine ⟨⟨a, (List.range len).map fun i => (intOf (V0 i), intOf (V1 i)), b, x0, x1, x2⟩, some ad, len, cap, rfl, fun hw => ⟨by simp, hl, hm, ?_, .inr ⟨ad, rfl, fun k hk => ?_⟩⟩⟩
        · have hbs : Tryd.prog.bytesOf 36 = 16 := by kernel_rfl
          have h1 := congrArg Prod.fst hxx
          have h2 := congrArg Prod.fst hx
          simp only at h1 h2
          have h3 := hw ((len + (m - len)) * 16) (by
            rw [h2]
            simp [DataW.weights, DataW.weightsEach, Tryd.underlying25, Tryd.underlying22, h1, hbs])
          unfold reachBytes at h3
          omega
        · have hkl : k < len := by simpa using hk
          have hkm : k < m := by rw [hmm]; simp; omega
          obtain ⟨h1, h2, t1, t2⟩ := hat k hkm
          obtain ⟨u1, s1, _, _⟩ := DataW.trod_int Tryd.underlying3 t1
          obtain ⟨u2, s2, _, _⟩ := DataW.trod_int Tryd.underlying3 t2
          simp at s1 s2
          simp only [List.getElem_map, List.getElem_range]
          rw [h1, h2, ← int_of s1, ← int_of s2]
          exact ⟨rfl, rfl⟩
theorem ftells_any2 (a : Frm.Ak) (A : Option Addr) (n c : Nat) (b : Frm.Ak) (A' : Option Addr) (n' c' : Nat) (x : Int) (w : World) (hL : Lim w) (ha : Rs w A n c a.rs) (hb : Rs w A' n' c' b.rs) :
    Calls Tryd.prog 3 #[av a A n c, av b A' n' c', .int .i64 x] w fun e w' => e = .returned (.bool true) ∧ Below w.heap.size w w' := ftells_any a b A n c A' n' c' x w hL ha hb
end Go.Proofs.YtpagdcobhbkabaaDoor

namespace Go.Proofs.YtpagdcobhbkabaaDoor
open Go.RowKit Go.Sort Go.Shelf Go.Deep Go.WideShapes

set_option maxRecDepth 100000 in
theorem fwaits_any (d x : Int) (w : World) (hL : Lim w) : Calls Tryd.prog 6 #[.int .i64 d, .int .i64 x] w fun e w' => e = .returned (.bool true) ∧ Below w.heap.size w w' := by
  have h1 := fwait_any d x w
  have h2 := fun w => rwait_any d x w
  generalize (if Frm.waitOk d x = true then Frm.wait d x else 0) = A at *
  generalize (if Frm.waitOk d x = true then (0 : Int) else 9) = B at *
  have hw := fun w1 h => fworks_any w1 (hL.later h)
  replace hL := Lib.hid hL
  go_enter Tryd.func6, Tryd.ntmps6
  go_wp2_with fail
  with_reducible refine h1.mono ?_
  rintro e w1 ⟨rfl, hb⟩
  have hW := hw w1 hb
  replace hb := Lib.hid hb
  clear h1 hw
  go_wp2_with fail
  with_reducible refine (h2 w1).mono ?_
  rintro e w2 ⟨rfl, rfl⟩
  clear h2
  go_wp2_with fail
  with_reducible refine hW.mono ?_
  rintro e w2 ⟨rfl, hb2⟩
  go_wp2
  go_ret
  exact ⟨rfl, old_later2 hb.out hb2 hb.out.size⟩
end Go.Proofs.YtpagdcobhbkabaaDoor

namespace Go.Proofs.YtpagdcobhbkabaaDoor
open Go.RowKit Go.Sort Go.Shelf Go.Deep Go.WideShapes

theorem reads_new (l : List Int) (cs : Array Value) (k : Nat) (w : World) (hL : Lim w) (hk : l.length = k) (hc : cs.toList = u8 l) (hm : k ≤ 1000) (hl : Oct.Bys l) :
    Calls Tryd.prog 5 #[.slice (some ⟨w.heap.size, 0, none⟩) k k] (w.alloc (.cells cs 5)) fun e w' => e = .returned (.bool true) ∧ Below w.heap.size w w' :=
  (freads_any _ k k l _ (hL.alloc _) (sl_new w l cs k hk hc (by unfold maxLen; omega)).rb hl).mono fun _ _ ⟨h, hb⟩ => ⟨h, later (laterA (Below.refl _ _) _) hb⟩
theorem rg_two5 {W : World} {R : Nat} {a b c d : Int} (h : Blk W R 36 #[.int .i64 a, .int .i64 b, .int .i64 c, .int .i64 d]) : Rg W (some ⟨R, 0, none⟩) 2 2 [(a, b), (c, d)] :=
  ⟨rfl, Nat.le_refl _, by simp [maxLen], .inr ⟨R, 0, rfl, h.lt, fun k hk => by
    have h0 := h.cell 0
    have h1 := h.cell 1
    have h2 := h.cell 2
    have h3 := h.cell 3
    simp at h0 h1 h2 h3
    simp only [List.length_cons, List.length_nil] at hk
    rcases (show k = 0 ∨ k = 1 by omega) with rfl | rfl
    · exact ⟨h0, h1⟩
    · exact ⟨h2, h3⟩⟩⟩
theorem rg_one5 {W : World} {R : Nat} {a b : Int} (h : Blk W R 36 #[.int .i64 a, .int .i64 b]) : Rg W (some ⟨R, 0, none⟩) 1 1 [(a, b)] :=
  ⟨rfl, Nat.le_refl _, by simp [maxLen], .inr ⟨R, 0, rfl, h.lt, fun k hk => by
    have h0 := h.cell 0
    have h1 := h.cell 1
    simp at h0 h1
    simp only [List.length_cons, List.length_nil] at hk
    obtain rfl : k = 0 := by omega
    exact ⟨h0, h1⟩⟩⟩
theorem cell_bel {w w' : World} {p : Addr} {v : Value} (hb : Below w.heap.size w w') (h : w.cell? p = some v) : w'.cell? p = some v := (hb.cell (block_lt_of_cell h)).trans h
def al (k : Nat) : List (Int × Int) := (List.range k).map fun (i : Nat) => (1000 - 2 * (i : Int), 1000 - 2 * (i : Int))
theorem al_len (k : Nat) : (al k).length = k := by simp [al]
theorem al_succ (k : Nat) : al (k + 1) = al k ++ [(1000 - 2 * (k : Int), 1000 - 2 * (k : Int))] := by simp [al, List.range_succ]

set_option maxHeartbeats 8000000 in
set_option maxRecDepth 100000 in
theorem fknown_any (w : World) (hL : Lim w) : Calls Tryd.prog 4 #[] w fun e w' => e = .returned (.bool true) ∧ Below w.heap.size w w' := by
  replace hL := Lib.hid hL
  go_enter Tryd.func4, Tryd.ntmps4
  go_wp2_with fail
  go_loopw [1] (fun iv wr => ∃ k : Nat, iv = .int .i64 (k : Int) ∧ k ≤ 256 ∧ Below w.heap.size w wr) (fun iv _ => 256 - (intOf iv).toNat)
  case atStart => exact ⟨0, rfl, by omega, Below.refl _ _⟩
  case round =>
    obtain ⟨k, rfl, hk, hl1⟩ := hrel
    by_cases hlt : k < 256
    · have hki : (k : Int) < 256 := by omega
      have hwk : IntKind.i64.wrap ((k : Int) + 1) = (k : Int) + 1 := IntWalk.i64_in _ (by omega)
      replace hl1 := Lib.hid hl1
      go_wp2_with fail
      have hy1 : Oct.Bys [(k : Int), 9, 0, 1, 2, 3, 2] := by
        intro y hy
        simp only [List.mem_cons, List.not_mem_nil, or_false] at hy
        rcases hy with rfl | rfl | rfl | rfl | rfl | rfl | rfl <;> omega
      have hC := reads_new [(k : Int), 9, 0, 1, 2, 3, 2] #[.int .u8 ((k : Int)), .int .u8 (9), .int .u8 (0), .int .u8 (1), .int .u8 (2), .int .u8 (3), .int .u8 (2)] 7 wr (hL.out.later hl1.out) rfl rfl (by omega) hy1
      clear hy1
      with_reducible refine hC.mono ?_
      clear hC
      rintro e w1 ⟨rfl, hb⟩
      have hm1 := Lib.hid (old_later2 hl1.out hb hl1.out.size)
      clear hb
      go_wp2_with fail
      have hy2 : Oct.Bys [2, (k : Int), 0, 1, 2, 3, 2] := by
        intro y hy
        simp only [List.mem_cons, List.not_mem_nil, or_false] at hy
        rcases hy with rfl | rfl | rfl | rfl | rfl | rfl | rfl <;> omega
      have hC := reads_new [2, (k : Int), 0, 1, 2, 3, 2] #[.int .u8 (2), .int .u8 ((k : Int)), .int .u8 (0), .int .u8 (1), .int .u8 (2), .int .u8 (3), .int .u8 (2)] 7 w1 (hL.out.later hm1.out) rfl rfl (by omega) hy2
      clear hy2
      with_reducible refine hC.mono ?_
      clear hC
      rintro e w2 ⟨rfl, hb⟩
      have hm2 := Lib.hid (old_later2 hm1.out hb hm1.out.size)
      clear hb
      go_wp2_with fail
      have hy3 : Oct.Bys [2, 9, 0, 1, (k : Int), 3, 2] := by
        intro y hy
        simp only [List.mem_cons, List.not_mem_nil, or_false] at hy
        rcases hy with rfl | rfl | rfl | rfl | rfl | rfl | rfl <;> omega
      have hC := reads_new [2, 9, 0, 1, (k : Int), 3, 2] #[.int .u8 (2), .int .u8 (9), .int .u8 (0), .int .u8 (1), .int .u8 ((k : Int)), .int .u8 (3), .int .u8 (2)] 7 w2 (hL.out.later hm2.out) rfl rfl (by omega) hy3
      clear hy3
      with_reducible refine hC.mono ?_
      clear hC
      rintro e w3 ⟨rfl, hb⟩
      have hm3 := Lib.hid (old_later2 hm2.out hb hm2.out.size)
      clear hb
      go_wp2_with fail
      have hy4 : Oct.Bys [2, 9, 0, 1, 2, (k : Int), 2] := by
        intro y hy
        simp only [List.mem_cons, List.not_mem_nil, or_false] at hy
        rcases hy with rfl | rfl | rfl | rfl | rfl | rfl | rfl <;> omega
      have hC := reads_new [2, 9, 0, 1, 2, (k : Int), 2] #[.int .u8 (2), .int .u8 (9), .int .u8 (0), .int .u8 (1), .int .u8 (2), .int .u8 ((k : Int)), .int .u8 (2)] 7 w3 (hL.out.later hm3.out) rfl rfl (by omega) hy4
      clear hy4
      with_reducible refine hC.mono ?_
      clear hC
      rintro e w4 ⟨rfl, hb⟩
      have hm4 := Lib.hid (old_later2 hm3.out hb hm3.out.size)
      clear hb
      go_wp2_with fail
      have hy5 : Oct.Bys [3, 9, 0, (k : Int) % 4, 2, 3, (k : Int), 4, 5, 6] := by
        intro y hy
        simp only [List.mem_cons, List.not_mem_nil, or_false] at hy
        rcases hy with rfl | rfl | rfl | rfl | rfl | rfl | rfl | rfl | rfl | rfl <;> omega
      have hC := reads_new [3, 9, 0, (k : Int) % 4, 2, 3, (k : Int), 4, 5, 6] #[.int .u8 (3), .int .u8 (9), .int .u8 (0), .int .u8 ((k : Int) % 4), .int .u8 (2), .int .u8 (3), .int .u8 ((k : Int)), .int .u8 (4), .int .u8 (5), .int .u8 (6)] 10 w4 (hL.out.later hm4.out) rfl rfl (by omega) hy5
      clear hy5
      with_reducible refine hC.mono ?_
      clear hC
      rintro e w5 ⟨rfl, hb⟩
      have hm5 := Lib.hid (old_later2 hm4.out hb hm4.out.size)
      clear hb
      go_wp2_with fail
      refine ⟨⟨k + 1, by simp, by omega, hm5.out⟩, ?_⟩
      simp only [intOf]
      omega
    · have hk256 : (k : Int) = 256 := by omega
      rw [hk256]
      clear hk256
      replace hl1 := Lib.hid hl1
      go_wp2_with fail
      obtain ⟨W6, hW6⟩ : ∃ W, wr.alloc (.cells #[.int .i64 (-9223372036854775808), .int .i64 (-1), .int .i64 (0), .int .i64 (1), .int .i64 (2), .int .i64 (20), .int .i64 (21), .int .i64 (255), .int .i64 (256), .int .i64 (9007199254740991), .int .i64 (9007199254740992), .int .i64 (9223372036854775807)] 3) = W := ⟨_, rfl⟩
      have hEN : ∀ j, j < 12 → ∃ x, W6.cell? ⟨wr.heap.size, j, none⟩ = some (.int .i64 x) := fun j hj => by
        have hB := Blk.new wr 3 #[.int .i64 (-9223372036854775808), .int .i64 (-1), .int .i64 (0), .int .i64 (1), .int .i64 (2), .int .i64 (20), .int .i64 (21), .int .i64 (255), .int .i64 (256), .int .i64 (9007199254740991), .int .i64 (9007199254740992), .int .i64 (9223372036854775807)]
        rw [hW6] at hB
        rw [hB.cell j]
        rcases j with _ | _ | _ | _ | _ | _ | _ | _ | _ | _ | _ | _ | j
        all_goals first | exact ⟨_, rfl⟩ | omega
      have hl6 := old_later2 hl1.out (laterA (Below.refl wr.heap.size wr) (.cells #[.int .i64 (-9223372036854775808), .int .i64 (-1), .int .i64 (0), .int .i64 (1), .int .i64 (2), .int .i64 (20), .int .i64 (21), .int .i64 (255), .int .i64 (256), .int .i64 (9007199254740991), .int .i64 (9007199254740992), .int .i64 (9223372036854775807)] 3)) hl1.out.size
      rw [hW6] at hl6 ⊢
      clear hW6 hl1
      generalize wr.heap.size = E at *
      clear wr
      replace hEN := Lib.hid hEN
      replace hl6 := Lib.hid hl6
      go_loopw [3] (fun iv wr => ∃ i : Nat, iv = .int .i64 (i : Int) ∧ i ≤ 12 ∧ Below W6.heap.size W6 wr) (fun iv _ => 12 - (intOf iv).toNat)
      case atStart => exact ⟨0, rfl, by omega, Below.refl _ _⟩
      case round =>
        obtain ⟨i, rfl, hi, hl7⟩ := hrel
        by_cases hlt : i < 12
        · have hii : (i : Int) < 12 := by omega
          have hi0 : (0 : Int) ≤ (i : Int) := by omega
          have hwi : IntKind.i64.wrap ((i : Int) + 1) = (i : Int) + 1 := IntWalk.i64_in _ (by omega)
          replace hl7 := Lib.hid hl7
          go_wp2_with fail
          go_loopw [4] (fun kv wr => ∃ k : Nat, kv = .int .i64 (k : Int) ∧ k ≤ 12 ∧ Below W6.heap.size W6 wr) (fun kv _ => 12 - (intOf kv).toNat)
          case atStart => exact ⟨0, rfl, by omega, hl7.out⟩
          case round =>
            obtain ⟨k, rfl, hk, hl8⟩ := hrel
            by_cases hltk : k < 12
            · have hkk : (k : Int) < 12 := by omega
              have hk0 : (0 : Int) ≤ (k : Int) := by omega
              have hwk : IntKind.i64.wrap ((k : Int) + 1) = (k : Int) + 1 := IntWalk.i64_in _ (by omega)
              obtain ⟨x, hx⟩ := hEN.out i hlt
              obtain ⟨y, hy⟩ := hEN.out k hltk
              have x1 := (hl8.cell (p := ⟨E, i, none⟩) (block_lt_of_cell hx)).trans hx
              have y1 := (hl8.cell (p := ⟨E, k, none⟩) (block_lt_of_cell hy)).trans hy
              replace hl8 := Lib.hid hl8
              clear hx hy
              go_wp2_with fail
              go_region_held3 (fun w' => w'.cell? ⟨E, i, none⟩ = some (.int .i64 x) ∧ w'.cell? ⟨E, k, none⟩ = some (.int .i64 y)) (first | exact ⟨cell_bel (by repeat (first | with_reducible exact Below.refl _ _ | refine laterA ?_ _ | refine laterD_ ?_ | refine below_wr ?_ (by first | exact Nat.le_refl _ | exact Nat.le_succ _ | (simp; done) | (simp; omega)) _ _)) x1, cell_bel (by repeat (first | with_reducible exact Below.refl _ _ | refine laterA ?_ _ | refine laterD_ ?_ | refine below_wr ?_ (by first | exact Nat.le_refl _ | exact Nat.le_succ _ | (simp; done) | (simp; omega)) _ _)) y1⟩ | fail) (fail)
              · rename_i hh1
                clear hh1
                have hrA := ((Blk.new wr 36 #[.int .i64 10, .int .i64 x, .int .i64 y, .int .i64 8]).alloc (.cells #[.int .i64 5, .slice (some ⟨wr.heap.size, 0, none⟩) 2 2, .bool false, .int .i64 0, .int .i64 0, .int .i64 0] 25)).drew
                have hxA := (Blk.new2 wr (.cells #[.int .i64 10, .int .i64 x, .int .i64 y, .int .i64 8] 36) 25 #[.int .i64 5, .slice (some ⟨wr.heap.size, 0, none⟩) 2 2, .bool false, .int .i64 0, .int .i64 0, .int .i64 0]).drew
                have hbA := laterD_ (laterA (laterA (Below.refl wr.heap.size wr) (.cells #[.int .i64 10, .int .i64 x, .int .i64 y, .int .i64 8] 36)) (.cells #[.int .i64 5, .slice (some ⟨wr.heap.size, 0, none⟩) 2 2, .bool false, .int .i64 0, .int .i64 0, .int .i64 0] 25))
                obtain ⟨V1, hV⟩ : ∃ W, ((wr.alloc (.cells #[.int .i64 10, .int .i64 x, .int .i64 y, .int .i64 8] 36)).alloc (.cells #[.int .i64 5, .slice (some ⟨wr.heap.size, 0, none⟩) 2 2, .bool false, .int .i64 0, .int .i64 0, .int .i64 0] 25)).drew = W := ⟨_, rfl⟩
                rw [hV] at hrA hxA hbA ⊢
                clear hV
                obtain ⟨XA, hX⟩ : ∃ X, wr.heap.size + 1 = X := ⟨_, rfl⟩
                rw [hX] at hxA ⊢
                clear hX
                obtain ⟨RA, hR⟩ : ∃ R, wr.heap.size = R := ⟨_, rfl⟩
                rw [hR] at hrA hxA ⊢
                clear hR
                have x2 := cell_bel hbA x1
                have y2 := cell_bel hbA y1
                have hl8A := Lib.hid (old_later2 hl8.out hbA hl8.out.size)
                clear hbA
                replace hrA := Lib.hid hrA
                replace hxA := Lib.hid hxA
                go_wp2_with fail
                go_region_held3 (fun w' => w'.cell? ⟨E, i, none⟩ = some (.int .i64 x) ∧ w'.cell? ⟨E, k, none⟩ = some (.int .i64 y)) (first | exact ⟨cell_bel (by repeat (first | with_reducible exact Below.refl _ _ | refine laterA ?_ _ | refine laterD_ ?_ | refine below_wr ?_ (by first | exact Nat.le_refl _ | exact Nat.le_succ _ | (simp; done) | (simp; omega)) _ _)) x2, cell_bel (by repeat (first | with_reducible exact Below.refl _ _ | refine laterA ?_ _ | refine laterD_ ?_ | refine below_wr ?_ (by first | exact Nat.le_refl _ | exact Nat.le_succ _ | (simp; done) | (simp; omega)) _ _)) y2⟩ | fail) (fail)
                · have hrB := ((Blk.new V1 36 #[.int .i64 y, .int .i64 9007199254740991]).alloc (.cells #[.int .i64 x, .slice (some ⟨V1.heap.size, 0, none⟩) 1 1, .bool (Int.tmod (i : Int) 2 == 0), .int .i64 y, .int .i64 0, .int .i64 x] 25)).drew
                  have hxB := (Blk.new2 V1 (.cells #[.int .i64 y, .int .i64 9007199254740991] 36) 25 #[.int .i64 x, .slice (some ⟨V1.heap.size, 0, none⟩) 1 1, .bool (Int.tmod (i : Int) 2 == 0), .int .i64 y, .int .i64 0, .int .i64 x]).drew
                  have hbB := laterD_ (laterA (laterA (Below.refl V1.heap.size V1) (.cells #[.int .i64 y, .int .i64 9007199254740991] 36)) (.cells #[.int .i64 x, .slice (some ⟨V1.heap.size, 0, none⟩) 1 1, .bool (Int.tmod (i : Int) 2 == 0), .int .i64 y, .int .i64 0, .int .i64 x] 25))
                  obtain ⟨V2, hV⟩ : ∃ W, ((V1.alloc (.cells #[.int .i64 y, .int .i64 9007199254740991] 36)).alloc (.cells #[.int .i64 x, .slice (some ⟨V1.heap.size, 0, none⟩) 1 1, .bool (Int.tmod (i : Int) 2 == 0), .int .i64 y, .int .i64 0, .int .i64 x] 25)).drew = W := ⟨_, rfl⟩
                  rw [hV] at hrB hxB hbB ⊢
                  clear hV
                  obtain ⟨XB, hX⟩ : ∃ X, V1.heap.size + 1 = X := ⟨_, rfl⟩
                  rw [hX] at hxB ⊢
                  clear hX
                  obtain ⟨RB, hR⟩ : ∃ R, V1.heap.size = R := ⟨_, rfl⟩
                  rw [hR] at hrB hxB ⊢
                  clear hR
                  rename_i hh2
                  clear hh2
                  have hrA2 := hrA.out.later hbB
                  have hxA2 := hxA.out.later hbB
                  have hl9 := old_later2 hl8A.out hbB hl8A.out.size
                  have x3 := cell_bel hbB x2
                  have y3 := cell_bel hbB y2
                  have hLim := (hL.out.later hl6.out).later hl9
                  obtain ⟨mk, hmk⟩ : ∃ mk, (Int.tmod (i : Int) 2 == 0) = mk := ⟨_, rfl⟩
                  rw [hmk] at hxB ⊢
                  clear hmk
                  have g1 := rg_two5 hrA2
                  have g2 := rg_one5 hrB
                  have k1 := fun d os => ftells_any2 ⟨5, [(10, x), (y, 8)], false, 0, 0, 0⟩ (some ⟨RA, 0, none⟩) 2 2 ⟨x, [(y, 9007199254740991)], mk, y, 0, x⟩ (some ⟨RB, 0, none⟩) 1 1 y (grow (redrawn V2 d) os) (hLim.later (below_regrown _ _ _)) ((g1.later (below_regrown _ _ _)).rs (by omega)) ((g2.later (below_regrown _ _ _)).rs (by omega))
                  have k2 := fun d os => ftells_any2 ⟨x, [(y, 9007199254740991)], mk, y, 0, x⟩ (some ⟨RB, 0, none⟩) 1 1 ⟨5, [(10, x), (y, 8)], false, 0, 0, 0⟩ (some ⟨RA, 0, none⟩) 2 2 x (grow (redrawn V2 d) os) (hLim.later (below_regrown _ _ _)) ((g2.later (below_regrown _ _ _)).rs (by omega)) ((g1.later (below_regrown _ _ _)).rs (by omega))
                  have k3 := fun d os => fwaits_any x y (grow (redrawn V2 d) os) (hLim.later (below_regrown _ _ _))
                  simp only [av] at k1 k2
                  have p0 := fun d os => (hxA2.grow d os).cell 0
                  have p1 := fun d os => (hxA2.grow d os).cell 1
                  have p2 := fun d os => (hxA2.grow d os).cell 2
                  have p3 := fun d os => (hxA2.grow d os).cell 3
                  have p4 := fun d os => (hxA2.grow d os).cell 4
                  have p5 := fun d os => (hxA2.grow d os).cell 5
                  have o0 := fun d os => (hxB.grow d os).cell 0
                  have o1 := fun d os => (hxB.grow d os).cell 1
                  have o2 := fun d os => (hxB.grow d os).cell 2
                  have o3 := fun d os => (hxB.grow d os).cell 3
                  have o4 := fun d os => (hxB.grow d os).cell 4
                  have o5 := fun d os => (hxB.grow d os).cell 5
                  simp at p0 p1 p2 p3 p4 p5 o0 o1 o2 o3 o4 o5
                  have xg := fun d os => cell_bel (below_regrown V2 d os) x3
                  have yg := fun d os => cell_bel (below_regrown V2 d os) y3
                  clear g1 g2 hrA2 hxA2 hrA hxA hrB hxB hLim hbB x1 y1 x2 y2 x3 y3
                  replace hl9 := Lib.hid hl9
                  replace k1 := Lib.hid k1
                  replace k2 := Lib.hid k2
                  replace k3 := Lib.hid k3
                  go_wp2_with fail
                  refine wp_region_quiet_below (by kernel_rfl) (by kernel_rfl) ?_
                  repeat (go_big_quiet_step ((first | (go_at_call 3; with_reducible exact Calls.regrown_of (k1.out _ _)) | (go_at_call 3; with_reducible exact Calls.regrown_of (k2.out _ _)) | (go_at_call 6; with_reducible exact Calls.regrown_of (k3.out _ _)))))
                  refine wpQuiet_nil ?_
                  intro wq hw'
                  obtain ⟨⟨dq, osq⟩, hw''⟩ := hw'
                  have hbq := regrown_below hw''
                  clear hw'' dq osq
                  have hl10 := Lib.hid (old_later2 hl9.out hbq hl9.out.size)
                  clear hbq k1 k2 k3 xg yg p0 p1 p2 p3 p4 p5 o0 o1 o2 o3 o4 o5
                  go_wp2_with fail
                  refine ⟨⟨k + 1, by simp, by omega, hl10.out⟩, ?_⟩
                  simp only [intOf]
                  omega
                · have hrB := (Blk.new2 V1 (.cells #[.int .i64 x, .slice (some ⟨V1.heap.size + 1, 0, none⟩) 1 1, .bool (Int.tmod (i : Int) 2 == 0), .int .i64 y, .int .i64 0, .int .i64 x] 25) 36 #[.int .i64 y, .int .i64 9007199254740991]).drew
                  have hxB := ((Blk.new V1 25 #[.int .i64 x, .slice (some ⟨V1.heap.size + 1, 0, none⟩) 1 1, .bool (Int.tmod (i : Int) 2 == 0), .int .i64 y, .int .i64 0, .int .i64 x]).alloc (.cells #[.int .i64 y, .int .i64 9007199254740991] 36)).drew
                  have hbB := laterD_ (laterA (laterA (Below.refl V1.heap.size V1) (.cells #[.int .i64 x, .slice (some ⟨V1.heap.size + 1, 0, none⟩) 1 1, .bool (Int.tmod (i : Int) 2 == 0), .int .i64 y, .int .i64 0, .int .i64 x] 25)) (.cells #[.int .i64 y, .int .i64 9007199254740991] 36))
                  obtain ⟨V2, hV⟩ : ∃ W, ((V1.alloc (.cells #[.int .i64 x, .slice (some ⟨V1.heap.size + 1, 0, none⟩) 1 1, .bool (Int.tmod (i : Int) 2 == 0), .int .i64 y, .int .i64 0, .int .i64 x] 25)).alloc (.cells #[.int .i64 y, .int .i64 9007199254740991] 36)).drew = W := ⟨_, rfl⟩
                  rw [hV] at hrB hxB hbB ⊢
                  clear hV
                  obtain ⟨RB, hR⟩ : ∃ R, V1.heap.size + 1 = R := ⟨_, rfl⟩
                  rw [hR] at hrB hxB ⊢
                  clear hR
                  obtain ⟨XB, hX⟩ : ∃ X, V1.heap.size = X := ⟨_, rfl⟩
                  rw [hX] at hxB ⊢
                  clear hX
                  rename_i hh2
                  clear hh2
                  have hrA2 := hrA.out.later hbB
                  have hxA2 := hxA.out.later hbB
                  have hl9 := old_later2 hl8A.out hbB hl8A.out.size
                  have x3 := cell_bel hbB x2
                  have y3 := cell_bel hbB y2
                  have hLim := (hL.out.later hl6.out).later hl9
                  obtain ⟨mk, hmk⟩ : ∃ mk, (Int.tmod (i : Int) 2 == 0) = mk := ⟨_, rfl⟩
                  rw [hmk] at hxB ⊢
                  clear hmk
                  have g1 := rg_two5 hrA2
                  have g2 := rg_one5 hrB
                  have k1 := fun d os => ftells_any2 ⟨5, [(10, x), (y, 8)], false, 0, 0, 0⟩ (some ⟨RA, 0, none⟩) 2 2 ⟨x, [(y, 9007199254740991)], mk, y, 0, x⟩ (some ⟨RB, 0, none⟩) 1 1 y (grow (redrawn V2 d) os) (hLim.later (below_regrown _ _ _)) ((g1.later (below_regrown _ _ _)).rs (by omega)) ((g2.later (below_regrown _ _ _)).rs (by omega))
                  have k2 := fun d os => ftells_any2 ⟨x, [(y, 9007199254740991)], mk, y, 0, x⟩ (some ⟨RB, 0, none⟩) 1 1 ⟨5, [(10, x), (y, 8)], false, 0, 0, 0⟩ (some ⟨RA, 0, none⟩) 2 2 x (grow (redrawn V2 d) os) (hLim.later (below_regrown _ _ _)) ((g2.later (below_regrown _ _ _)).rs (by omega)) ((g1.later (below_regrown _ _ _)).rs (by omega))
                  have k3 := fun d os => fwaits_any x y (grow (redrawn V2 d) os) (hLim.later (below_regrown _ _ _))
                  simp only [av] at k1 k2
                  have p0 := fun d os => (hxA2.grow d os).cell 0
                  have p1 := fun d os => (hxA2.grow d os).cell 1
                  have p2 := fun d os => (hxA2.grow d os).cell 2
                  have p3 := fun d os => (hxA2.grow d os).cell 3
                  have p4 := fun d os => (hxA2.grow d os).cell 4
                  have p5 := fun d os => (hxA2.grow d os).cell 5
                  have o0 := fun d os => (hxB.grow d os).cell 0
                  have o1 := fun d os => (hxB.grow d os).cell 1
                  have o2 := fun d os => (hxB.grow d os).cell 2
                  have o3 := fun d os => (hxB.grow d os).cell 3
                  have o4 := fun d os => (hxB.grow d os).cell 4
                  have o5 := fun d os => (hxB.grow d os).cell 5
                  simp at p0 p1 p2 p3 p4 p5 o0 o1 o2 o3 o4 o5
                  have xg := fun d os => cell_bel (below_regrown V2 d os) x3
                  have yg := fun d os => cell_bel (below_regrown V2 d os) y3
                  clear g1 g2 hrA2 hxA2 hrA hxA hrB hxB hLim hbB x1 y1 x2 y2 x3 y3
                  replace hl9 := Lib.hid hl9
                  replace k1 := Lib.hid k1
                  replace k2 := Lib.hid k2
                  replace k3 := Lib.hid k3
                  go_wp2_with fail
                  refine wp_region_quiet_below (by kernel_rfl) (by kernel_rfl) ?_
                  repeat (go_big_quiet_step ((first | (go_at_call 3; with_reducible exact Calls.regrown_of (k1.out _ _)) | (go_at_call 3; with_reducible exact Calls.regrown_of (k2.out _ _)) | (go_at_call 6; with_reducible exact Calls.regrown_of (k3.out _ _)))))
                  refine wpQuiet_nil ?_
                  intro wq hw'
                  obtain ⟨⟨dq, osq⟩, hw''⟩ := hw'
                  have hbq := regrown_below hw''
                  clear hw'' dq osq
                  have hl10 := Lib.hid (old_later2 hl9.out hbq hl9.out.size)
                  clear hbq k1 k2 k3 xg yg p0 p1 p2 p3 p4 p5 o0 o1 o2 o3 o4 o5
                  go_wp2_with fail
                  refine ⟨⟨k + 1, by simp, by omega, hl10.out⟩, ?_⟩
                  simp only [intOf]
                  omega
              · rename_i hh1
                clear hh1
                have hrA := (Blk.new2 wr (.cells #[.int .i64 5, .slice (some ⟨wr.heap.size + 1, 0, none⟩) 2 2, .bool false, .int .i64 0, .int .i64 0, .int .i64 0] 25) 36 #[.int .i64 10, .int .i64 x, .int .i64 y, .int .i64 8]).drew
                have hxA := ((Blk.new wr 25 #[.int .i64 5, .slice (some ⟨wr.heap.size + 1, 0, none⟩) 2 2, .bool false, .int .i64 0, .int .i64 0, .int .i64 0]).alloc (.cells #[.int .i64 10, .int .i64 x, .int .i64 y, .int .i64 8] 36)).drew
                have hbA := laterD_ (laterA (laterA (Below.refl wr.heap.size wr) (.cells #[.int .i64 5, .slice (some ⟨wr.heap.size + 1, 0, none⟩) 2 2, .bool false, .int .i64 0, .int .i64 0, .int .i64 0] 25)) (.cells #[.int .i64 10, .int .i64 x, .int .i64 y, .int .i64 8] 36))
                obtain ⟨V1, hV⟩ : ∃ W, ((wr.alloc (.cells #[.int .i64 5, .slice (some ⟨wr.heap.size + 1, 0, none⟩) 2 2, .bool false, .int .i64 0, .int .i64 0, .int .i64 0] 25)).alloc (.cells #[.int .i64 10, .int .i64 x, .int .i64 y, .int .i64 8] 36)).drew = W := ⟨_, rfl⟩
                rw [hV] at hrA hxA hbA ⊢
                clear hV
                obtain ⟨RA, hR⟩ : ∃ R, wr.heap.size + 1 = R := ⟨_, rfl⟩
                rw [hR] at hrA hxA ⊢
                clear hR
                obtain ⟨XA, hX⟩ : ∃ X, wr.heap.size = X := ⟨_, rfl⟩
                rw [hX] at hxA ⊢
                clear hX
                have x2 := cell_bel hbA x1
                have y2 := cell_bel hbA y1
                have hl8A := Lib.hid (old_later2 hl8.out hbA hl8.out.size)
                clear hbA
                replace hrA := Lib.hid hrA
                replace hxA := Lib.hid hxA
                go_wp2_with fail
                go_region_held3 (fun w' => w'.cell? ⟨E, i, none⟩ = some (.int .i64 x) ∧ w'.cell? ⟨E, k, none⟩ = some (.int .i64 y)) (first | exact ⟨cell_bel (by repeat (first | with_reducible exact Below.refl _ _ | refine laterA ?_ _ | refine laterD_ ?_ | refine below_wr ?_ (by first | exact Nat.le_refl _ | exact Nat.le_succ _ | (simp; done) | (simp; omega)) _ _)) x2, cell_bel (by repeat (first | with_reducible exact Below.refl _ _ | refine laterA ?_ _ | refine laterD_ ?_ | refine below_wr ?_ (by first | exact Nat.le_refl _ | exact Nat.le_succ _ | (simp; done) | (simp; omega)) _ _)) y2⟩ | fail) (fail)
                · have hrB := ((Blk.new V1 36 #[.int .i64 y, .int .i64 9007199254740991]).alloc (.cells #[.int .i64 x, .slice (some ⟨V1.heap.size, 0, none⟩) 1 1, .bool (Int.tmod (i : Int) 2 == 0), .int .i64 y, .int .i64 0, .int .i64 x] 25)).drew
                  have hxB := (Blk.new2 V1 (.cells #[.int .i64 y, .int .i64 9007199254740991] 36) 25 #[.int .i64 x, .slice (some ⟨V1.heap.size, 0, none⟩) 1 1, .bool (Int.tmod (i : Int) 2 == 0), .int .i64 y, .int .i64 0, .int .i64 x]).drew
                  have hbB := laterD_ (laterA (laterA (Below.refl V1.heap.size V1) (.cells #[.int .i64 y, .int .i64 9007199254740991] 36)) (.cells #[.int .i64 x, .slice (some ⟨V1.heap.size, 0, none⟩) 1 1, .bool (Int.tmod (i : Int) 2 == 0), .int .i64 y, .int .i64 0, .int .i64 x] 25))
                  obtain ⟨V2, hV⟩ : ∃ W, ((V1.alloc (.cells #[.int .i64 y, .int .i64 9007199254740991] 36)).alloc (.cells #[.int .i64 x, .slice (some ⟨V1.heap.size, 0, none⟩) 1 1, .bool (Int.tmod (i : Int) 2 == 0), .int .i64 y, .int .i64 0, .int .i64 x] 25)).drew = W := ⟨_, rfl⟩
                  rw [hV] at hrB hxB hbB ⊢
                  clear hV
                  obtain ⟨XB, hX⟩ : ∃ X, V1.heap.size + 1 = X := ⟨_, rfl⟩
                  rw [hX] at hxB ⊢
                  clear hX
                  obtain ⟨RB, hR⟩ : ∃ R, V1.heap.size = R := ⟨_, rfl⟩
                  rw [hR] at hrB hxB ⊢
                  clear hR
                  rename_i hh2
                  clear hh2
                  have hrA2 := hrA.out.later hbB
                  have hxA2 := hxA.out.later hbB
                  have hl9 := old_later2 hl8A.out hbB hl8A.out.size
                  have x3 := cell_bel hbB x2
                  have y3 := cell_bel hbB y2
                  have hLim := (hL.out.later hl6.out).later hl9
                  obtain ⟨mk, hmk⟩ : ∃ mk, (Int.tmod (i : Int) 2 == 0) = mk := ⟨_, rfl⟩
                  rw [hmk] at hxB ⊢
                  clear hmk
                  have g1 := rg_two5 hrA2
                  have g2 := rg_one5 hrB
                  have k1 := fun d os => ftells_any2 ⟨5, [(10, x), (y, 8)], false, 0, 0, 0⟩ (some ⟨RA, 0, none⟩) 2 2 ⟨x, [(y, 9007199254740991)], mk, y, 0, x⟩ (some ⟨RB, 0, none⟩) 1 1 y (grow (redrawn V2 d) os) (hLim.later (below_regrown _ _ _)) ((g1.later (below_regrown _ _ _)).rs (by omega)) ((g2.later (below_regrown _ _ _)).rs (by omega))
                  have k2 := fun d os => ftells_any2 ⟨x, [(y, 9007199254740991)], mk, y, 0, x⟩ (some ⟨RB, 0, none⟩) 1 1 ⟨5, [(10, x), (y, 8)], false, 0, 0, 0⟩ (some ⟨RA, 0, none⟩) 2 2 x (grow (redrawn V2 d) os) (hLim.later (below_regrown _ _ _)) ((g2.later (below_regrown _ _ _)).rs (by omega)) ((g1.later (below_regrown _ _ _)).rs (by omega))
                  have k3 := fun d os => fwaits_any x y (grow (redrawn V2 d) os) (hLim.later (below_regrown _ _ _))
                  simp only [av] at k1 k2
                  have p0 := fun d os => (hxA2.grow d os).cell 0
                  have p1 := fun d os => (hxA2.grow d os).cell 1
                  have p2 := fun d os => (hxA2.grow d os).cell 2
                  have p3 := fun d os => (hxA2.grow d os).cell 3
                  have p4 := fun d os => (hxA2.grow d os).cell 4
                  have p5 := fun d os => (hxA2.grow d os).cell 5
                  have o0 := fun d os => (hxB.grow d os).cell 0
                  have o1 := fun d os => (hxB.grow d os).cell 1
                  have o2 := fun d os => (hxB.grow d os).cell 2
                  have o3 := fun d os => (hxB.grow d os).cell 3
                  have o4 := fun d os => (hxB.grow d os).cell 4
                  have o5 := fun d os => (hxB.grow d os).cell 5
                  simp at p0 p1 p2 p3 p4 p5 o0 o1 o2 o3 o4 o5
                  have xg := fun d os => cell_bel (below_regrown V2 d os) x3
                  have yg := fun d os => cell_bel (below_regrown V2 d os) y3
                  clear g1 g2 hrA2 hxA2 hrA hxA hrB hxB hLim hbB x1 y1 x2 y2 x3 y3
                  replace hl9 := Lib.hid hl9
                  replace k1 := Lib.hid k1
                  replace k2 := Lib.hid k2
                  replace k3 := Lib.hid k3
                  go_wp2_with fail
                  refine wp_region_quiet_below (by kernel_rfl) (by kernel_rfl) ?_
                  repeat (go_big_quiet_step ((first | (go_at_call 3; with_reducible exact Calls.regrown_of (k1.out _ _)) | (go_at_call 3; with_reducible exact Calls.regrown_of (k2.out _ _)) | (go_at_call 6; with_reducible exact Calls.regrown_of (k3.out _ _)))))
                  refine wpQuiet_nil ?_
                  intro wq hw'
                  obtain ⟨⟨dq, osq⟩, hw''⟩ := hw'
                  have hbq := regrown_below hw''
                  clear hw'' dq osq
                  have hl10 := Lib.hid (old_later2 hl9.out hbq hl9.out.size)
                  clear hbq k1 k2 k3 xg yg p0 p1 p2 p3 p4 p5 o0 o1 o2 o3 o4 o5
                  go_wp2_with fail
                  refine ⟨⟨k + 1, by simp, by omega, hl10.out⟩, ?_⟩
                  simp only [intOf]
                  omega
                · have hrB := (Blk.new2 V1 (.cells #[.int .i64 x, .slice (some ⟨V1.heap.size + 1, 0, none⟩) 1 1, .bool (Int.tmod (i : Int) 2 == 0), .int .i64 y, .int .i64 0, .int .i64 x] 25) 36 #[.int .i64 y, .int .i64 9007199254740991]).drew
                  have hxB := ((Blk.new V1 25 #[.int .i64 x, .slice (some ⟨V1.heap.size + 1, 0, none⟩) 1 1, .bool (Int.tmod (i : Int) 2 == 0), .int .i64 y, .int .i64 0, .int .i64 x]).alloc (.cells #[.int .i64 y, .int .i64 9007199254740991] 36)).drew
                  have hbB := laterD_ (laterA (laterA (Below.refl V1.heap.size V1) (.cells #[.int .i64 x, .slice (some ⟨V1.heap.size + 1, 0, none⟩) 1 1, .bool (Int.tmod (i : Int) 2 == 0), .int .i64 y, .int .i64 0, .int .i64 x] 25)) (.cells #[.int .i64 y, .int .i64 9007199254740991] 36))
                  obtain ⟨V2, hV⟩ : ∃ W, ((V1.alloc (.cells #[.int .i64 x, .slice (some ⟨V1.heap.size + 1, 0, none⟩) 1 1, .bool (Int.tmod (i : Int) 2 == 0), .int .i64 y, .int .i64 0, .int .i64 x] 25)).alloc (.cells #[.int .i64 y, .int .i64 9007199254740991] 36)).drew = W := ⟨_, rfl⟩
                  rw [hV] at hrB hxB hbB ⊢
                  clear hV
                  obtain ⟨RB, hR⟩ : ∃ R, V1.heap.size + 1 = R := ⟨_, rfl⟩
                  rw [hR] at hrB hxB ⊢
                  clear hR
                  obtain ⟨XB, hX⟩ : ∃ X, V1.heap.size = X := ⟨_, rfl⟩
                  rw [hX] at hxB ⊢
                  clear hX
                  rename_i hh2
                  clear hh2
                  have hrA2 := hrA.out.later hbB
                  have hxA2 := hxA.out.later hbB
                  have hl9 := old_later2 hl8A.out hbB hl8A.out.size
                  have x3 := cell_bel hbB x2
                  have y3 := cell_bel hbB y2
                  have hLim := (hL.out.later hl6.out).later hl9
                  obtain ⟨mk, hmk⟩ : ∃ mk, (Int.tmod (i : Int) 2 == 0) = mk := ⟨_, rfl⟩
                  rw [hmk] at hxB ⊢
                  clear hmk
                  have g1 := rg_two5 hrA2
                  have g2 := rg_one5 hrB
                  have k1 := fun d os => ftells_any2 ⟨5, [(10, x), (y, 8)], false, 0, 0, 0⟩ (some ⟨RA, 0, none⟩) 2 2 ⟨x, [(y, 9007199254740991)], mk, y, 0, x⟩ (some ⟨RB, 0, none⟩) 1 1 y (grow (redrawn V2 d) os) (hLim.later (below_regrown _ _ _)) ((g1.later (below_regrown _ _ _)).rs (by omega)) ((g2.later (below_regrown _ _ _)).rs (by omega))
                  have k2 := fun d os => ftells_any2 ⟨x, [(y, 9007199254740991)], mk, y, 0, x⟩ (some ⟨RB, 0, none⟩) 1 1 ⟨5, [(10, x), (y, 8)], false, 0, 0, 0⟩ (some ⟨RA, 0, none⟩) 2 2 x (grow (redrawn V2 d) os) (hLim.later (below_regrown _ _ _)) ((g2.later (below_regrown _ _ _)).rs (by omega)) ((g1.later (below_regrown _ _ _)).rs (by omega))
                  have k3 := fun d os => fwaits_any x y (grow (redrawn V2 d) os) (hLim.later (below_regrown _ _ _))
                  simp only [av] at k1 k2
                  have p0 := fun d os => (hxA2.grow d os).cell 0
                  have p1 := fun d os => (hxA2.grow d os).cell 1
                  have p2 := fun d os => (hxA2.grow d os).cell 2
                  have p3 := fun d os => (hxA2.grow d os).cell 3
                  have p4 := fun d os => (hxA2.grow d os).cell 4
                  have p5 := fun d os => (hxA2.grow d os).cell 5
                  have o0 := fun d os => (hxB.grow d os).cell 0
                  have o1 := fun d os => (hxB.grow d os).cell 1
                  have o2 := fun d os => (hxB.grow d os).cell 2
                  have o3 := fun d os => (hxB.grow d os).cell 3
                  have o4 := fun d os => (hxB.grow d os).cell 4
                  have o5 := fun d os => (hxB.grow d os).cell 5
                  simp at p0 p1 p2 p3 p4 p5 o0 o1 o2 o3 o4 o5
                  have xg := fun d os => cell_bel (below_regrown V2 d os) x3
                  have yg := fun d os => cell_bel (below_regrown V2 d os) y3
                  clear g1 g2 hrA2 hxA2 hrA hxA hrB hxB hLim hbB x1 y1 x2 y2 x3 y3
                  replace hl9 := Lib.hid hl9
                  replace k1 := Lib.hid k1
                  replace k2 := Lib.hid k2
                  replace k3 := Lib.hid k3
                  go_wp2_with fail
                  refine wp_region_quiet_below (by kernel_rfl) (by kernel_rfl) ?_
                  repeat (go_big_quiet_step ((first | (go_at_call 3; with_reducible exact Calls.regrown_of (k1.out _ _)) | (go_at_call 3; with_reducible exact Calls.regrown_of (k2.out _ _)) | (go_at_call 6; with_reducible exact Calls.regrown_of (k3.out _ _)))))
                  refine wpQuiet_nil ?_
                  intro wq hw'
                  obtain ⟨⟨dq, osq⟩, hw''⟩ := hw'
                  have hbq := regrown_below hw''
                  clear hw'' dq osq
                  have hl10 := Lib.hid (old_later2 hl9.out hbq hl9.out.size)
                  clear hbq k1 k2 k3 xg yg p0 p1 p2 p3 p4 p5 o0 o1 o2 o3 o4 o5
                  go_wp2_with fail
                  refine ⟨⟨k + 1, by simp, by omega, hl10.out⟩, ?_⟩
                  simp only [intOf]
                  omega
            · have hk12 : (k : Int) = 12 := by omega
              rw [hk12]
              clear hk12
              replace hl8 := Lib.hid hl8
              go_wp2_with fail
              refine ⟨⟨i + 1, by simp, by omega, hl8.out⟩, ?_⟩
              simp only [intOf]
              omega
        · have hi12 : (i : Int) = 12 := by omega
          rw [hi12]
          clear hi12
          replace hl7 := Lib.hid hl7
          go_wp2_with fail
          have low := old_later2 hl6.out hl7.out hl6.out.size
          have hx7 := Blk.new wr 25 #[.int .i64 0, .slice none 0 0, .bool false, .int .i64 0, .int .i64 0, .int .i64 0]
          have hl9 := laterA (Below.refl wr.heap.size wr) (.cells #[.int .i64 0, .slice none 0 0, .bool false, .int .i64 0, .int .i64 0, .int .i64 0] 25)
          have low7 := old_later2 low hl9 low.size
          obtain ⟨W7, hW7⟩ : ∃ W, wr.alloc (.cells #[.int .i64 0, .slice none 0 0, .bool false, .int .i64 0, .int .i64 0, .int .i64 0] 25) = W := ⟨_, rfl⟩
          have hX0 := low.size
          have hs7 : wr.heap.size + 1 ≤ (wr.alloc (.cells #[.int .i64 0, .slice none 0 0, .bool false, .int .i64 0, .int .i64 0, .int .i64 0] 25)).heap.size := by simp
          rw [hW7] at hx7 low7 hs7
          rw [hW7]
          clear hW7 hl9 low hl7 hl6 hEN
          generalize wr.heap.size = X7 at *
          clear wr
          have hX7 : w.heap.size ≤ X7 := hX0
          replace hX7 := Lib.hid hX7
          replace hx7 := Lib.hid hx7
          replace low7 := Lib.hid low7
          replace hs7 := Lib.hid hs7
          go_wp2_with fail
          go_loopw [8] (fun iv wr => ∃ (k : Nat) (A3 : Option Addr) (n3 c3 : Nat), iv = .int .i64 (k : Int) ∧ k ≤ 257 ∧ Blk wr X7 25 #[.int .i64 0, .slice A3 n3 c3, .bool false, .int .i64 0, .int .i64 0, .int .i64 0] ∧ OwnS encR 36 2 wr (X7 + 1) (.slice A3 n3 c3) (al k) ∧ Below w.heap.size w wr ∧ X7 + 1 ≤ wr.heap.size) (fun iv _ => 257 - (intOf iv).toNat)
          case atStart => exact ⟨0, none, 0, 0, rfl, by omega, hx7.out, OwnS.nil _, low7.out, hs7.out⟩
          case round =>
            obtain ⟨k, A3, n3, c3, rfl, hk, hx, hown, low, hs⟩ := hrel
            have d1 := hx.cell 1
            have f1 := hx.frozen 1
            simp at d1
            by_cases hlt : k < 257
            · have hki : (k : Int) < 257 := by omega
              have hwk : IntKind.i64.wrap ((k : Int) + 1) = (k : Int) + 1 := IntWalk.i64_in _ (by omega)
              have hw2 : IntKind.i64.wrap (2 * (k : Int)) = 2 * (k : Int) := IntWalk.i64_in _ (by omega)
              have hw3 : IntKind.i64.wrap (1000 - 2 * (k : Int)) = 1000 - 2 * (k : Int) := IntWalk.i64_in _ (by omega)
              have hlx := laterA (Below.refl wr.heap.size wr) (.cells #[.int .i64 (1000 - 2 * (k : Int)), .int .i64 (1000 - 2 * (k : Int))] 36)
              have hxr := Blk.new wr 36 #[.int .i64 (1000 - 2 * (k : Int)), .int .i64 (1000 - 2 * (k : Int))]
              have hx3 := hx.later hlx
              have hown3 := hown.later hlx
              have low3 := old_later2 low hlx low.size
              have hs3 := Nat.le_trans hs hlx.size
              have hal : (al k).length = k := al_len k
              replace hal := Lib.hid hal
              clear hx hown low hlx
              replace hs := Lib.hid hs
              replace hs3 := Lib.hid hs3
              replace hx3 := Lib.hid hx3
              replace hown3 := Lib.hid hown3
              replace low3 := Lib.hid low3
              replace hxr := Lib.hid hxr
              go_wp2_with (at_builtin; refine wpList_ows (enc := encR) (e := 36) (size := 2) (B := X7 + 1) (l := al k) rfl _ _ 22 rfl Tryd.underlying22 range_info rfl (by omega) (by omega) wr.heap.size (1000 - 2 * (k : Int), 1000 - 2 * (k : Int)) rfl rfl hown3.out hxr.out rfl (one_r _) hs3.out (by rw [hal.out]; omega) ?_)
              intro v3 w5 hown4 hg4 _
              have hx5 := blkS_row hx3.out hown3.out hg4 (by decide)
              have hg5 := Only.of_row hg4
              have low5 := only_old low3.out hg5 (fun i hi => by have h1 := (hown3.out.low i hi).1; have h2 := low7.out.size; have h3 := hx7.out.lt; have h4 := hX7.out; omega) low3.out.size
              have hs5 := Nat.le_trans hs3.out hg5.size
              rw [← al_succ] at hown4
              obtain ⟨A6, c6, rfl, _⟩ := hown4.cells len_r
              have e1 := hx5.cell 1
              have e2 := hx5.frozen 1
              simp at e1
              have hx6 := hx5.set_ 1 (.slice A6 (al (k + 1)).length c6)
              have hoS : Only (· = X7) w5 (w5.setCell ⟨X7, 1, none⟩ (.slice A6 (al (k + 1)).length c6)) := Only.set (F := (· = X7)) (p := ⟨X7, 1, none⟩) (Only.refl _ w5) rfl _
              have hown6 := hown4.only hoS (fun g hg hf => by have := (hown4.low g hg).1; omega)
              have low6 := only_old low5 hoS (by rintro i rfl; exact hX7.out) low5.size
              have hs6 := Nat.le_trans hs5 hoS.size
              clear hg4 hg5 hown4 hx5 low5 hs5 d1 f1
              replace hs6 := Lib.hid hs6
              replace hx6 := Lib.hid hx6
              replace hown6 := Lib.hid hown6
              replace low6 := Lib.hid low6
              replace hoS := Lib.hid hoS
              go_wp2_with fail
              refine ⟨⟨k + 1, A6, _, c6, by simp, by omega, hx6.out, hown6.out, low6.out, hs6.out⟩, ?_⟩
              simp only [intOf]
              omega
            · have hk2 : k = 257 := by omega
              have hk257 : (k : Int) = 257 := by omega
              rw [hk257]
              subst hk2
              clear hk257
              have hrg0 := hown.rg
              rw [al_len] at hrg0
              obtain ⟨A4, c4, hA, r7, r7b⟩ := hrg0
              injection hA with hA hA2 hA3
              subst hA hA2 hA3
              have hC := check_any ⟨0, al 257, false, 0, 0, 0⟩ A3 257 c3 wr r7 (by omega)
              have hch : Frm.chk ⟨0, al 257, false, 0, 0, 0⟩ = false := by kernel_rfl
              unfold ChkPost at hC
              rw [hch] at hC
              simp only [av, Bool.false_eq_true, ↓reduceIte] at hC
              obtain ⟨A5, hsl, r8, hf8⟩ := rg_to r7 (K := 256) (by omega)
              have r8b := Lib.hid (hf8 (X7 + 1) r7b)
              clear hf8 r7b
              have hsl2 : ∀ W : World, (Instr.slice 22 (.slice A3 257 c3) none (some (.int .i64 256)) none).run Tryd.prog W = .ok (.slice A5 256 c3) W := hsl
              have htk : (al 257).take 256 = al 256 := by
                show (al (256 + 1)).take 256 = _
                rw [al_succ 256, List.take_left' (al_len 256)]
              rw [htk] at r8
              clear hsl htk hch
              have d0 := hx.cell 0
              have d2 := hx.cell 2
              have d3 := hx.cell 3
              have d4 := hx.cell 4
              have d5 := hx.cell 5
              simp at d0 d2 d3 d4 d5
              clear r7
              replace hs := Lib.hid hs
              replace hx := Lib.hid hx
              replace hown := Lib.hid hown
              replace low := Lib.hid low
              replace r8 := Lib.hid r8
              go_wp2_with fail
              with_reducible refine hC.mono ?_
              clear hC d0 d1 d2 d3 d4 d5 f1
              (try clear hu)
              rintro e v1 ⟨rfl, hb⟩
              replace hx := Lib.hid (hx.out.later hb)
              replace hown := Lib.hid (hown.out.later hb)
              replace r8 := Lib.hid (r8.out.later hb)
              replace low := Lib.hid (old_later2 low.out hb low.out.size)
              clear hb
              have d1 := hx.out.cell 1
              have f1 := hx.out.frozen 1
              simp at d1
              have hx2 := hx.out.set_ 1 (.slice A5 256 c3)
              have hoS : Only (· = X7) v1 (v1.setCell ⟨X7, 1, none⟩ (.slice A5 256 c3)) := Only.set (F := (· = X7)) (p := ⟨X7, 1, none⟩) (Only.refl _ v1) rfl _
              have hox : ∀ y, A5 = some y → y.block ≠ X7 := by
                intro y hy hf
                have h1 := r8b.out y hy
                omega
              have r9 := r8.out.only hoS (fun y hy hf => hox y hy hf)
              have low2 := only_old low.out hoS (by rintro i rfl; exact hX7.out) low.out.size
              obtain ⟨W2, hW2⟩ : ∃ W, v1.setCell ⟨X7, 1, none⟩ (.slice A5 256 c3) = W := ⟨_, rfl⟩
              rw [hW2] at hx2 r9 low2
              have d0 := hx2.cell 0
              have d1' := hx2.cell 1
              have d2 := hx2.cell 2
              have d3 := hx2.cell 3
              have d4 := hx2.cell 4
              have d5 := hx2.cell 5
              simp at d0 d1' d2 d3 d4 d5
              have hC := bytes_any (⟨0, al 256, false, 0, 0, 0⟩ : Frm.Ak) A5 256 c3 W2 (hL.out.later low2) r9 (by omega)
              obtain ⟨LB, eB, hY⟩ : ∃ L e, Frm.bytes (⟨0, al 256, false, 0, 0, 0⟩ : Frm.Ak) = (L, e) := ⟨_, _, rfl⟩
              have hbe : (Frm.bytes (⟨0, al 256, false, 0, 0, 0⟩ : Frm.Ak)).2 = 0 := by kernel_rfl
              have hbl : (Frm.bytes (⟨0, al 256, false, 0, 0, 0⟩ : Frm.Ak)).1.length = 517 := by kernel_rfl
              have hby := bytes_bys3 (⟨0, al 256, false, 0, 0, 0⟩ : Frm.Ak)
              rw [hY] at hC hbe hbl hby
              simp only at hbe hbl hby
              subst hbe
              unfold BytesPost at hC
              simp only [hbl, av] at hC
              clear hx low r8 hoS hox hown hY
              replace hbl := Lib.hid hbl
              replace hby := Lib.hid hby
              have low := low2
              have x7 := hx2
              have r7 := r9
              clear low2 hx2 r9
              replace low := Lib.hid low
              replace x7 := Lib.hid x7
              replace r7 := Lib.hid r7
              go_wp2_with fail
              with_reducible refine hC.mono ?_
              clear hC d0 d1 d1' d2 d3 d4 d5 f1 hsl2 hW2
              rintro e v2 ⟨qB, AB, cB, rfl, sB, hb⟩
              replace x7 := Lib.hid (x7.out.later hb)
              replace r7 := Lib.hid (r7.out.later hb)
              replace low := Lib.hid (old_later2 low.out hb low.out.size)
              clear hb
              replace sB := Lib.hid sB
              have hyL : Oct.Bys [2, 128, 0, 0, 5, 64, 0, 192, 0, 0, 0, 0, 0, 0, 0, 64, 1] := by
                intro y hy
                simp only [List.mem_cons, List.not_mem_nil, or_false] at hy
                rcases hy with rfl | rfl | rfl | rfl | rfl | rfl | rfl | rfl | rfl | rfl | rfl | rfl | rfl | rfl | rfl | rfl | rfl <;> omega
              have hnL : Frm.nxt [2, 128, 0, 0, 5, 64, 0, 192, 0, 0, 0, 0, 0, 0, 0, 64, 1] = (⟨0, [(4, 5)], false, 0, 0, 0⟩, 17, 0) := by kernel_rfl
              have hC := next_any (some ⟨v2.heap.size, 0, none⟩) 17 17 v2.heap.size [2, 128, 0, 0, 5, 64, 0, 192, 0, 0, 0, 0, 0, 0, 0, 64, 1] (v2.alloc (.cells #[.int .u8 2, .int .u8 128, .int .u8 0, .int .u8 0, .int .u8 5, .int .u8 64, .int .u8 0, .int .u8 192, .int .u8 0, .int .u8 0, .int .u8 0, .int .u8 0, .int .u8 0, .int .u8 0, .int .u8 0, .int .u8 64, .int .u8 1] 5)) (by simp) (sl_new v2 [2, 128, 0, 0, 5, 64, 0, 192, 0, 0, 0, 0, 0, 0, 0, 64, 1] #[.int .u8 2, .int .u8 128, .int .u8 0, .int .u8 0, .int .u8 5, .int .u8 64, .int .u8 0, .int .u8 192, .int .u8 0, .int .u8 0, .int .u8 0, .int .u8 0, .int .u8 0, .int .u8 0, .int .u8 0, .int .u8 64, .int .u8 1] 17 rfl rfl (by simp [maxLen])) (by omega) hyL
              rw [hnL] at hC
              clear hnL hyL
              go_wp2_with fail
              with_reducible refine hC.mono ?_
              clear hC
              rintro e v3 ⟨A6, n6, c6, rfl, r13, _, hb0⟩
              have hb := later (laterA (Below.refl v2.heap.size v2) (.cells #[.int .u8 2, .int .u8 128, .int .u8 0, .int .u8 0, .int .u8 5, .int .u8 64, .int .u8 0, .int .u8 192, .int .u8 0, .int .u8 0, .int .u8 0, .int .u8 0, .int .u8 0, .int .u8 0, .int .u8 0, .int .u8 64, .int .u8 1] 5)) hb0
              clear hb0
              replace x7 := Lib.hid (x7.out.later hb)
              replace r7 := Lib.hid (r7.out.later hb)
              replace sB := Lib.hid (sB.out.later hb)
              replace low := Lib.hid (old_later2 low.out hb low.out.size)
              clear hb
              simp only [av]
              obtain rfl : n6 = 1 := by have := r13.1; simpa using this.symm
              have x13 := Blk.new v3 25 #[.int .i64 0, .slice A6 1 c6, .bool false, .int .i64 0, .int .i64 0, .int .i64 0]
              have hb := laterA (Below.refl v3.heap.size v3) (.cells #[.int .i64 0, .slice A6 1 c6, .bool false, .int .i64 0, .int .i64 0, .int .i64 0] 25)
              replace x7 := Lib.hid (x7.out.later hb)
              replace r7 := Lib.hid (r7.out.later hb)
              replace sB := Lib.hid (sB.out.later hb)
              replace low := Lib.hid (old_later2 low.out hb low.out.size)
              replace r13 := Lib.hid (r13.later hb)
              replace x13 := Lib.hid x13
              clear hb
              have sG := sl_new (v3.alloc (.cells #[.int .i64 0, .slice A6 1 c6, .bool false, .int .i64 0, .int .i64 0, .int .i64 0] 25)) [2, 192, 32, 0, 0, 0, 0, 0, 0, 0, 0, 0] #[.int .u8 2, .int .u8 192, .int .u8 32, .int .u8 0, .int .u8 0, .int .u8 0, .int .u8 0, .int .u8 0, .int .u8 0, .int .u8 0, .int .u8 0, .int .u8 0] 12 rfl rfl (by simp [maxLen])
              have hb := laterA (Below.refl (v3.alloc (.cells #[.int .i64 0, .slice A6 1 c6, .bool false, .int .i64 0, .int .i64 0, .int .i64 0] 25)).heap.size (v3.alloc (.cells #[.int .i64 0, .slice A6 1 c6, .bool false, .int .i64 0, .int .i64 0, .int .i64 0] 25))) (.cells #[.int .u8 2, .int .u8 192, .int .u8 32, .int .u8 0, .int .u8 0, .int .u8 0, .int .u8 0, .int .u8 0, .int .u8 0, .int .u8 0, .int .u8 0, .int .u8 0] 5)
              replace x7 := Lib.hid (x7.out.later hb)
              replace r7 := Lib.hid (r7.out.later hb)
              replace sB := Lib.hid (sB.out.later hb)
              replace x13 := Lib.hid (x13.out.later hb)
              replace r13 := Lib.hid (r13.out.later hb)
              replace low := Lib.hid (old_later2 low.out hb low.out.size)
              rw [World.size_alloc] at sG
              replace sG := Lib.hid sG
              clear hb
              have hC := fworks_any ((v3.alloc (.cells #[.int .i64 0, .slice A6 1 c6, .bool false, .int .i64 0, .int .i64 0, .int .i64 0] 25)).alloc (.cells #[.int .u8 2, .int .u8 192, .int .u8 32, .int .u8 0, .int .u8 0, .int .u8 0, .int .u8 0, .int .u8 0, .int .u8 0, .int .u8 0, .int .u8 0, .int .u8 0] 5)) (hL.out.later low.out)
              go_wp2_with fail
              with_reducible refine hC.mono ?_
              clear hC 
              rintro e v5 ⟨rfl, hb⟩
              replace x7 := Lib.hid (x7.out.later hb)
              replace r7 := Lib.hid (r7.out.later hb)
              replace sB := Lib.hid (sB.out.later hb)
              replace x13 := Lib.hid (x13.out.later hb)
              replace r13 := Lib.hid (r13.out.later hb)
              replace sG := Lib.hid (sG.out.later hb)
              replace low := Lib.hid (old_later2 low.out hb low.out.size)
              clear hb
              obtain ⟨G, hG⟩ : ∃ G, v3.heap.size + 1 = G := ⟨_, rfl⟩
              rw [hG] at sG ⊢
              clear hG
              have hca : Frm.chk (⟨0, al 256, false, 0, 0, 0⟩ : Frm.Ak) = true := by kernel_rfl
              have hC := check_any (⟨0, al 256, false, 0, 0, 0⟩ : Frm.Ak) A5 256 c3 v5 r7.out (by omega)
              unfold ChkPost at hC
              rw [hca] at hC
              simp only [av, ↓reduceIte] at hC
              clear hca
              have d0 := x7.out.cell 0
              have d1 := x7.out.cell 1
              have d2 := x7.out.cell 2
              have d3 := x7.out.cell 3
              have d4 := x7.out.cell 4
              have d5 := x7.out.cell 5
              simp at d0 d1 d2 d3 d4 d5
              go_wp2_with fail
              with_reducible refine hC.mono ?_
              clear hC d0 d1 d2 d3 d4 d5
              (try clear hu)
              rintro e v6 ⟨rfl, hb⟩
              replace x7 := Lib.hid (x7.out.later hb)
              replace r7 := Lib.hid (r7.out.later hb)
              replace sB := Lib.hid (sB.out.later hb)
              replace x13 := Lib.hid (x13.out.later hb)
              replace r13 := Lib.hid (r13.out.later hb)
              replace sG := Lib.hid (sG.out.later hb)
              replace low := Lib.hid (old_later2 low.out hb low.out.size)
              clear hb
              have hC := freads_any AB 517 cB LB v6 (hL.out.later low.out) sB.out.rb hby.out
              go_wp2_with fail
              with_reducible refine hC.mono ?_
              clear hC 
              (try clear hu)
              rintro e v7 ⟨rfl, hb⟩
              replace x7 := Lib.hid (x7.out.later hb)
              replace r7 := Lib.hid (r7.out.later hb)
              replace sB := Lib.hid (sB.out.later hb)
              replace x13 := Lib.hid (x13.out.later hb)
              replace r13 := Lib.hid (r13.out.later hb)
              replace sG := Lib.hid (sG.out.later hb)
              replace low := Lib.hid (old_later2 low.out hb low.out.size)
              clear hb
              have d0 := x13.out.cell 0
              have d1 := x13.out.cell 1
              have d2 := x13.out.cell 2
              have d3 := x13.out.cell 3
              have d4 := x13.out.cell 4
              have d5 := x13.out.cell 5
              simp at d0 d1 d2 d3 d4 d5
              obtain ⟨q6, o6, rfl, _, hc6⟩ := r13.out.at (by omega)
              obtain ⟨h60, h61⟩ := hc6 0 (4, 5) rfl
              simp only [Nat.zero_mul, Nat.add_zero] at h60 h61
              have q2 := eq_rng 4 5 4 5
              simp only [beq_self_eq_true, Bool.and_self] at q2
              clear hc6
              have hnG : Frm.nxt [2, 192, 32, 0, 0, 0, 0, 0, 0, 0, 0, 0] = (Frm.zero, 0, 9) := by kernel_rfl
              have hyG : Oct.Bys [2, 192, 32, 0, 0, 0, 0, 0, 0, 0, 0, 0] := by
                intro y hy
                simp only [List.mem_cons, List.not_mem_nil, or_false] at hy
                rcases hy with rfl | rfl | rfl | rfl | rfl | rfl | rfl | rfl | rfl | rfl | rfl | rfl <;> omega
              have hC := fails_any 9 (some ⟨G, 0, none⟩) 12 12 G [2, 192, 32, 0, 0, 0, 0, 0, 0, 0, 0, 0] v7 (by have := x7.out.lt; omega) sG.out (by omega) hyG
              rw [hnG] at hC
              simp only [decide_true, Bool.and_self] at hC
              clear hnG hyG
              go_wp2_with fail
              with_reducible refine hC.mono ?_
              clear hC d0 d1 d2 d3 d4 d5 h60 h61 q2
              (try clear hu)
              rintro e v8 ⟨rfl, hb⟩
              replace x7 := Lib.hid (x7.out.later hb)
              replace low := Lib.hid (old_later2 low.out hb low.out.size)
              clear hb
              have hnG : Frm.nxt [2, 9, 0, 65, 0] = (Frm.zero, 0, 5) := by kernel_rfl
              have hyG : Oct.Bys [2, 9, 0, 65, 0] := by
                intro y hy
                simp only [List.mem_cons, List.not_mem_nil, or_false] at hy
                rcases hy with rfl | rfl | rfl | rfl | rfl <;> omega
              have hC := fails_any 5 (some ⟨v8.heap.size, 0, none⟩) 5 5 v8.heap.size [2, 9, 0, 65, 0] (v8.alloc (.cells #[.int .u8 2, .int .u8 9, .int .u8 0, .int .u8 65, .int .u8 0] 5)) (by simp) (sl_new v8 [2, 9, 0, 65, 0] #[.int .u8 2, .int .u8 9, .int .u8 0, .int .u8 65, .int .u8 0] 5 rfl rfl (by simp [maxLen])) (by omega) hyG
              rw [hnG] at hC
              simp only [decide_true, Bool.and_self] at hC
              clear hnG hyG
              go_wp2_with fail
              with_reducible refine hC.mono ?_
              clear hC
              rintro e v9 ⟨rfl, hb0⟩
              have hb := later (laterA (Below.refl v8.heap.size v8) (.cells #[.int .u8 2, .int .u8 9, .int .u8 0, .int .u8 65, .int .u8 0] 5)) hb0
              clear hb0
              replace low := Lib.hid (old_later2 low.out hb low.out.size)
              clear hb
              have hcz : Frm.chk Frm.zero = false := by kernel_rfl
              have hC := check_any Frm.zero none 0 0 v9 Rg.zero (by omega)
              unfold ChkPost at hC
              rw [hcz] at hC
              simp only [av, Frm.zero, Bool.false_eq_true, ↓reduceIte] at hC
              clear hcz
              go_wp2_with fail
              with_reducible refine hC.mono ?_
              clear hC
              rintro e v10 ⟨rfl, hb⟩
              replace low := Lib.hid (old_later2 low.out hb low.out.size)
              clear hb
              go_wp2
              go_ret
              exact ⟨rfl, low.out⟩
end Go.Proofs.YtpagdcobhbkabaaDoor

namespace Go.Proofs.YtpagdcobhbkabaaDoor.frameKnown
open Go.ChangeShapes Go.WideShapes Go.ChangeAt Go.RowKit

theorem own : ownKnob Tryd.prog.godebug = none := by kernel_rfl

theorem kept_types : ∀ t ∈ Tryd.f4.params.toList, Tryd.prog.readableRec t = true ∧ t < Tryd.prog.types.size := by
  rw [Tryd.params4]
  intro t ht
  exact absurd ht List.not_mem_nil

set_option maxRecDepth 100000 in
theorem contract (H : Type) (enc : TypeId × Value → H) (W : World) (base : Nat) (args : Array Value) (ds gs : List (DataW H)) (before : List MemPlace)
    (_hval : ∀ (j : Nat) t v, Tryd.f4.params[j]? = some t → args[j]? = some v → Value.okWide Tryd.prog W .any base t v)
    (hW : DataW.Whole enc Tryd.prog Tryd.f4.params.toList Rows.frameKnownSpec.vars false W args.toList ds gs before) (hL : laidMetH Tryd.prog Rows.frameKnownRow.laid W) :
    Calls Tryd.prog 4 args W fun e W' => ∃ v, e = .returned v ∧ Rows.frameKnownSpec.post enc Tryd.prog Tryd.f4 false true false false W args v W' := by
  have hLim : Lim W := limits_laid (rest := []) hL
  have hW' := hW
  obtain ⟨p, q, hA0, hV, rfl, hfz, hnd⟩ := hW
  have hA : DataW.TrodAll enc Tryd.prog W 0 (fun _ => true) true Tryd.f4.params.toList args.toList ds p := hA0
  rw [Tryd.params4] at hA
  obtain ⟨hargs, rfl, _⟩ := trodAll_nil hA
  obtain rfl : args = #[] := by cases args; simp_all
  obtain ⟨rfl, rfl⟩ := trodVars_none hV
  simp only [List.append_nil] at hW'
  refine (fknown_any W hLim).mono fun e W' ⟨he, hg⟩ => ?_
  subst he
  exact ⟨_, rfl, post_of_below (pa := p) (pv := []) hW' (fun _ _ _ => (trodAll_cons_mk (shut_bool Tryd.underlying4 _) trodAll_mk0)) (fun sp hsp => trodAll_kept (by kernel_rfl) hg _ _ _ _ (fun t ht => kept_types t ht) hA0 (fun x hx => hW'.lt x hx) hsp) (fun _ _ => rfl) (List.append_nil _).symm
    hg (ok_one (by kernel_rfl) rfl (okWide_bool_mk Tryd.underlying4 _))⟩

theorem laid_met (os : Go.Os) : laidMet Tryd.prog Rows.frameKnownRow.laid ((laidWorld os).forCall (fun _ _ => 0) ⟨#[], #[], []⟩).memory :=
  laidMet_of_run' 8 (by kernel_rfl) (by kernel_rfl)
theorem reads (os : Go.Os) {H : Type} (enc : TypeId × Value → H) : ∃ places, DataW.whole enc Tryd.prog ((laidWorld os).forCall (fun _ _ => 0) ⟨#[], #[], []⟩).memory Tryd.f4.params.toList Rows.frameKnownSpec.vars false (#[] : Array Value).toList 8 = some ([], [], places) :=
  ⟨[], by kernel_rfl⟩

set_option maxRecDepth 100000 in
theorem lifted (os : Go.Os) (started : os.Started) (H : Type) (enc : TypeId × Value → H) (F : Stop.Interp) :
    ReturnsInHanded {} Tryd.checked os 4 .any ((OpenSpec.ofChange Rows.frameKnownSpec).preRow enc Tryd.prog Tryd.f4 Rows.frameKnownRow.domain false Rows.frameKnownRow.laid) (((OpenSpec.ofChange Rows.frameKnownSpec).at F).post enc Tryd.prog Tryd.f4 false true false false) := by
  obtain ⟨places, hx⟩ := reads os enc
  refine returnsInHanded_of_row (C := Tryd.checked) (s := OpenSpec.ofChange Rows.frameKnownSpec) own started (by kernel_rfl) Tryd.func4
    (witness_row_at (enc := enc) (C := Tryd.checked) false (laidWorld os) #[] rfl (by kernel_rfl) (by kernel_rfl) (by kernel_rfl)
      (OpenSpec.preRow_of_cond 8 hx (by kernel_rfl) (fun k hk => by cases hk) (by kernel_rfl) (laid_met os))) ?_
  intro W base args ds gs before hval hW _ _ _ hL _ _
  exact contract H enc W base args ds gs before hval hW hL

theorem said : Rows.FrameKnownSaid :=
  OpenClaim.holds_of_cond 4 Tryd.f4 rfl rfl rfl rfl rfl rfl rfl ⟨rfl, rfl, rfl, rfl, rfl⟩ rfl rfl rfl rfl rfl (by kernel_rfl) Tryd.func4 (by kernel_rfl)
    (of_decide_eq_true (by kernel_rfl)) (by unfold Func.isWrapper; first | (rw [if_pos (by decide +kernel)]; kernel_rfl) | (rw [if_neg (by decide +kernel)]; exact ⟨rfl, rfl⟩))
    (fun os started H enc _ F => by rw [OpenClaim.pre_eq_preRow]; exact lifted os started H enc F)

theorem plain (f : FuncId) (fn : Func) (hf : Tryd.pinned.checked.prog.funcNamed "sounder/sounderlaw05.FrameKnown" = some f) (hfn : Tryd.pinned.checked.prog.funcs[f]? = some fn) :
    false = Tryd.pinned.checked.prog.looks [] ∧ ∀ (j : Nat) t, fn.params[j]? = some t → Tryd.pinned.checked.prog.wantsStandIn t = false := by
  obtain rfl : f = 4 := Option.some.inj ((show Tryd.prog.funcNamed "sounder/sounderlaw05.FrameKnown" = some 4 by kernel_rfl).symm.trans hf) |>.symm
  obtain rfl : fn = Tryd.f4 := (Option.some.inj (Tryd.func4.symm.trans hfn)).symm
  refine ⟨by kernel_rfl, fun j t ht => ?_⟩
  rw [Tryd.params4] at ht
  simp at ht

theorem proved : Rows.FrameKnownCardSaid :=
  Claim7.holds_tied_plain_at .later [] _ _ _ _ said (fun _ h => by cases h) (by kernel_rfl) (fun _ h => by cases h) frameKnown_row_tie rfl ⟨rfl, rfl⟩ (by kernel_rfl) rfl plain (by kernel_rfl)
#print axioms proved
end Go.Proofs.YtpagdcobhbkabaaDoor.frameKnown
