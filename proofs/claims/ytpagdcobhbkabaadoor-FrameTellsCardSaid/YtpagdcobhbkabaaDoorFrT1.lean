/-
  Layer 5: the document's Copy, Check, Has, Bytes; the program's Copy; cut.
-/
import Derived.Test.YtpagdcobhbkabaaDoorFrS
namespace Go.Proofs.YtpagdcobhbkabaaDoor
open Go.RowKit Go.Sort Go.Shelf Go.Deep Go.WideShapes

/-- Ranges that came in, in whatever memory. -/
def Rs (w : World) (A : Option Addr) (n c : Nat) (rs : List (Int × Int)) : Prop :=
  rs.length = n ∧ n ≤ c ∧ c ≤ maxLen ∧ n * 16 ≤ 140737488355328 ∧ ((A = none ∧ n = 0 ∧ c = 0) ∨ ∃ a, A = some a ∧ ∀ k (hk : k < rs.length), w.cell? (a.add (k * 2)) = some (.int .i64 rs[k].1) ∧ w.cell? (a.add (k * 2 + 1)) = some (.int .i64 rs[k].2))
theorem Rs.later {w w' : World} {A : Option Addr} {n c : Nat} {rs : List (Int × Int)} (h : Rs w A n c rs) (hb : Below w.heap.size w w') : Rs w' A n c rs := by
  obtain ⟨h1, h2, h3, h4, h5 | ⟨a, rfl, h6⟩⟩ := h
  · exact ⟨h1, h2, h3, h4, .inl h5⟩
  · refine ⟨h1, h2, h3, h4, .inr ⟨a, rfl, fun k hk => ?_⟩⟩
    obtain ⟨g1, g2⟩ := h6 k hk
    exact ⟨(hb.cell (block_lt_of_cell g1)).trans g1, (hb.cell (block_lt_of_cell g2)).trans g2⟩
theorem Rg.rs {w : World} {A : Option Addr} {n c : Nat} {rs : List (Int × Int)} (h : Rg w A n c rs) (hb : n * 16 ≤ 140737488355328) : Rs w A n c rs := by
  obtain ⟨h1, h2, h3, h5 | ⟨q, off, rfl, hq, h6⟩⟩ := h
  · exact ⟨h1, h2, h3, hb, .inl h5⟩
  · refine ⟨h1, h2, h3, hb, .inr ⟨_, rfl, fun k hk => ?_⟩⟩
    rw [add_lit0, add_lit0, ← Nat.add_assoc]
    exact h6 k hk
theorem OwnS.rg2 {w : World} {B : Nat} {v : Value} {l : List (Int × Int)} {e : TypeId} (h : OwnS encR e 2 w B v l) : ∃ A c, v = .slice A l.length c ∧ Rg w A l.length c l ∧ ∀ x, A = some x → B ≤ x.block := h.rg
theorem flat_len (rs : List (Int × Int)) : (rs.flatMap encR).length = rs.length * 2 := by
  induction rs with
  | nil => rfl
  | cons x t ih =>
    rw [List.flatMap_cons, List.length_append, ih, len_r, List.length_cons]
    omega
theorem run_apps {w : World} {B n c : Nat} {v : Value} {l rs : List (Int × Int)} {A : Option Addr} (ty : TypeId) (h : OwnS encR 36 2 w B v l) (hx : Rs w A n c rs) (hl : l = []) (hB : B ≤ w.heap.size) :
    ∃ v' w', (Builtin.append_ #[22, 22] ty #[v, .slice A n c]).run Tryd.prog w = .ok v' w' ∧ OwnS encR 36 2 w' B v' rs ∧ w.grownBy w' v.ownBlock := by
  obtain ⟨i0, hi, hz0, hz1, hz2⟩ := info_parts' range_info
  subst hl
  obtain ⟨h1, h2, h3, h4, ⟨rfl, rfl, rfl⟩ | ⟨a, rfl, h5⟩⟩ := hx
  · have hm : rs = [] := List.length_eq_zero_iff.1 h1
    subst hm
    exact ⟨v, w, run_append_owned_none w B 22 ty 36 i0 2 Tryd.underlying22 hi v _ _ h, h, World.grownBy.refl w _⟩
  · obtain ⟨v', w', e1, e2, e3, _, e5⟩ := run_append_own_at (P := Tryd.prog) (w := w) B 22 ty 36 i0 (.agg #[.int .i64 0, .int .i64 0]) 2 16 Tryd.underlying22 hi hz0 hz1 hz2 rfl (by omega) v 0 [] h a n c (rs.flatMap encR) (by rw [flat_len, h1]) (fun j u hu => by
        have hj : j < rs.length * 2 := by
          have := (List.getElem?_eq_some_iff.1 hu).1
          rwa [flat_len] at this
        have hj2 : j / 2 < rs.length := by omega
        have hm := flatS_at encR 2 len_r rs (j / 2) (j % 2) hj2 (by omega)
        rw [show j / 2 * 2 + j % 2 = j by omega, hu] at hm
        obtain ⟨g1, g2⟩ := h5 (j / 2) hj2
        rcases (show j % 2 = 0 ∨ j % 2 = 1 by omega) with hr | hr
        · rw [hr] at hm
          simp [encR] at hm
          rw [hm, ← g1, show j / 2 * 2 = j by omega]
        · rw [hr] at hm
          simp [encR] at hm
          rw [hm, ← g2, show j / 2 * 2 + 1 = j by omega]) (fun u hu => by
        obtain ⟨x, _, hx⟩ := List.mem_flatMap.1 hu
        exact one_r x u hx) (by unfold maxLen at h3 ⊢; omega) (by omega) hB
    refine ⟨v', w', e1, ?_, e3⟩
    unfold OwnS
    rw [Nat.zero_add, List.nil_append] at e2
    rw [h1]
    exact e2
theorem wpList_apps {w : World} {B n c : Nat} {v : Value} {l rs : List (Int × Int)} {A : Option Addr} {ops : Array Oper} {rest : List Oper} {o : Oper} {a : Act} {Q : Exit → Act → World → Prop} (hgd : o.guard = none) (s x : Operand)
    (ho : o.op = .call { callee := .builtin .append, args := #[s, x], argTypes := #[22, 22] }) (hs : a.eval s = v) (hx : a.eval x = .slice A n c) (h : OwnS encR 36 2 w B v l) (hu : Rs w A n c rs) (hl : l = []) (hB : B ≤ w.heap.size)
    (hK : ∀ v' w', OwnS encR 36 2 w' B v' rs → w.grownBy w' v.ownBlock → wpList Tryd.prog ops Q rest (a.put o.dst v') w') : wpList Tryd.prog ops Q (o :: rest) a w := by
  obtain ⟨v', w', e1, e2, e3⟩ := run_apps o.type h hu hl hB
  exact Lib.wpList_append_run w hgd s x _ _ ho v _ hs hx v' w' e1 (hK v' w' e2 e3)
theorem below_row {w w' : World} {row : Option Nat} (h : w.grownBy w' row) (hr : row = none) : Below w.heap.size w w' := by
  subst hr
  exact ⟨h.os, h.tape, h.output, h.size, fun k hk => h.block k hk (by simp)⟩
theorem OwnS.low_base {α : Type} {enc : α → List Value} {e : TypeId} {size : Nat} {w : World} {B B' : Nat} {v : Value} {l : List α} (h : OwnS enc e size w B v l) (hB : B' ≤ B) : OwnS enc e size w B' v l := by
  rcases h with ⟨h1, ⟨rfl, h2⟩ | ⟨g, cap, cur, rfl, h3, h4, h5⟩⟩
  · exact ⟨h1, .inl ⟨rfl, h2⟩⟩
  · exact ⟨h1, .inr ⟨g, cap, cur, rfl, by omega, h4, h5⟩⟩
/-- A copy of an ACK, in memory of its own. -/
def CopyPost (w0 : World) (a : Frm.Ak) (n : Nat) (e : Ending) (w' : World) : Prop :=
  ∃ A c, e = .returned (av a A n c) ∧ OwnS encR 36 2 w' w0.heap.size (.slice A n c) a.rs ∧ Below w0.heap.size w0 w'
set_option maxHeartbeats 2000000 in
set_option maxRecDepth 100000 in
theorem rcopy_any (a : Frm.Ak) (A : Option Addr) (n c : Nat) (w : World) (h : Rs w A n c a.rs) :
    Calls Tryd.prog 34 #[av a A n c] w (CopyPost w a n) := by
  have hn := h.1
  have hn' := Lib.hid hn
  have hb1 := laterA (Below.refl w.heap.size w) (.cells #[.int .i64 a.d, .slice A n c, .bool a.mkd, .int .i64 a.e0, .int .i64 a.e1, .int .i64 a.e2] 25)
  have hb2 := laterA hb1 (.cells #[.int .i64 0, .slice none 0 0, .bool false, .int .i64 0, .int .i64 0, .int .i64 0] 25)
  have hx1 := (Blk.new w 25 #[.int .i64 a.d, .slice A n c, .bool a.mkd, .int .i64 a.e0, .int .i64 a.e1, .int .i64 a.e2]).alloc (.cells #[.int .i64 0, .slice none 0 0, .bool false, .int .i64 0, .int .i64 0, .int .i64 0] 25)
  have hx2 := Blk.new2 w (.cells #[.int .i64 a.d, .slice A n c, .bool a.mkd, .int .i64 a.e0, .int .i64 a.e1, .int .i64 a.e2] 25) 25 #[.int .i64 0, .slice none 0 0, .bool false, .int .i64 0, .int .i64 0, .int .i64 0]
  have h2 := h.later hb2
  have hsz : ((w.alloc (.cells #[.int .i64 a.d, .slice A n c, .bool a.mkd, .int .i64 a.e0, .int .i64 a.e1, .int .i64 a.e2] 25)).alloc (.cells #[.int .i64 0, .slice none 0 0, .bool false, .int .i64 0, .int .i64 0, .int .i64 0] 25)).heap.size = w.heap.size + 2 := by simp
  unfold av
  clear h hb1
  replace hx1 := Lib.hid hx1
  replace hx2 := Lib.hid hx2
  replace hb2 := Lib.hid hb2
  replace h2 := Lib.hid h2
  replace hsz := Lib.hid hsz
  go_enter Tryd.func34, Tryd.ntmps34
  go_wp2_with (at_builtin; refine wpList_apps (rs := a.rs) (l := []) (A := A) (n := n) (c := c) (B := w.heap.size) rfl _ _ rfl rfl rfl (OwnS.nil _) h2.out rfl (by rw [hsz.out]; omega) ?_)
  intro v3 w5 hown hg
  have hb5 := below_row hg rfl
  obtain ⟨A3, c3, rfl, _, _⟩ := hown.rg
  rw [hn] at hown
  have hy1 := hx1.out.later hb5
  have hy2 := hx2.out.later hb5
  have hb6 := old_later2 hb2.out hb5 hb2.out.size
  have k1 := hy1.cell 1
  have q1 := hy1.frozen 1
  simp at k1
  have hy3 := hy1.set_ 1 (.slice A3 n c3)
  have hy4 : Blk (w5.setCell ⟨w.heap.size, 1, none⟩ (.slice A3 n c3)) (w.heap.size + 1) 25 _ := hy2.far (p := ⟨w.heap.size, 1, none⟩) (by simp) (.slice A3 n c3)
  have hown6 := hown.only (Only.set (F := (· = w.heap.size)) (p := ⟨w.heap.size, 1, none⟩) (Only.refl _ w5) rfl (.slice A3 n c3)) (fun g hg hf => by subst hf; exact OwnS.ne hown hy1 (by decide) hg)
  have hb7 := below_wr hb6 (Nat.le_refl _) 1 (.slice A3 n c3)
  obtain ⟨W6, hW6⟩ : ∃ W, w5.setCell ⟨w.heap.size, 1, none⟩ (.slice A3 n c3) = W := ⟨_, rfl⟩
  rw [hW6] at hy3 hy4 hown6 hb7
  have z0 := hy3.cell 0
  have z1 := hy3.cell 1
  have z2 := hy3.cell 2
  have z3 := hy3.cell 3
  have z4 := hy3.cell 4
  have z5 := hy3.cell 5
  have y0 := hy4.cell 0
  have y1 := hy4.cell 1
  have y2 := hy4.cell 2
  have y3 := hy4.cell 3
  have y4 := hy4.cell 4
  have y5 := hy4.cell 5
  have x0 := hy4.frozen 0
  have x1 := hy4.frozen 1
  have x2 := hy4.frozen 2
  have x3 := hy4.frozen 3
  have x4 := hy4.frozen 4
  have x5 := hy4.frozen 5
  simp at z0 z1 z2 z3 z4 z5 y0 y1 y2 y3 y4 y5
  clear hg hb5 hy1 hy2 hb6 hown hn
  replace hy3 := Lib.hid hy3
  replace hy4 := Lib.hid hy4
  replace hown6 := Lib.hid hown6
  replace hb7 := Lib.hid hb7
  rw [hn'.out]
  go_wp2_with fail
  refine bodyPost_ret (results_c1 rfl _ _ rfl (six_blk hy4.out) rfl) rfl ?_
  exact ⟨A3, c3, rfl, hown6.out.only six_only (fun g hg hf => by subst hf; exact OwnS.ne hown6.out hy4.out (by decide) hg), only_old hb7.out six_only (by rintro i rfl; exact Nat.le_succ _) hb7.out.size⟩
theorem rg_to {w : World} {n c : Nat} {A : Option Addr} {rs : List (Int × Int)} (h : Rg w A n c rs) {K : Nat} (hK : K ≤ n) :
    ∃ A2, (∀ W : World, (Instr.slice 22 (.slice A n c) none (some (.int .i64 (K : Int))) none).run Tryd.prog W = .ok (.slice A2 K c) W) ∧ Rg w A2 K c (rs.take K) ∧ (∀ B : Nat, (∀ x, A = some x → B ≤ x.block) → ∀ x, A2 = some x → B ≤ x.block) := by
  obtain ⟨h1, h2, h3, h4⟩ := h
  have he : Tryd.prog.elem 22 = 36 := by simp [Program.elem, Tryd.underlying22]
  have ht' : Tryd.prog.underlying 22 = some (.slice (Tryd.prog.elem 22)) := by rw [he]; exact Tryd.underlying22
  refine ⟨if c = 0 then A else A.map (·.add (0 * 2)), fun W => ?_, ⟨by rw [List.length_take, h1]; omega, by omega, h3, ?_⟩, ?_⟩
  · rw [run_slice_h W 22 _ _ _ ht' .i64 _ (by omega) (by omega), he, Tryd.sizeOf36 W]
    rfl
  · rcases h4 with ⟨rfl, rfl, rfl⟩ | ⟨q, off, rfl, hq, h5⟩
    · left; exact ⟨by split <;> rfl, by omega, rfl⟩
    · right
      refine ⟨q, off, ?_, hq, fun k hk => ?_⟩
      · split
        · rfl
        · rw [Nat.zero_mul, Option.map_some, add_lit0, Nat.add_zero]
      · rw [List.length_take] at hk
        rw [List.getElem_take]
        exact h5 k (by omega)
  · intro B hB x hx
    split at hx
    · exact hB x hx
    · cases A with
      | none => simp at hx
      | some y =>
        rw [Option.map_some] at hx
        injection hx with hx
        subst hx
        exact hB y rfl
/-- What cut answers: some ranges at most, in memory of its own. -/
def CutPost (w0 : World) (a : Frm.Ak) (m : Nat) (e : Ending) (w' : World) : Prop :=
  ∃ A c, e = .returned (av a A m c) ∧ Rg w' A m c (a.rs.take m) ∧ (∀ x, A = some x → w0.heap.size ≤ x.block) ∧ Below w0.heap.size w0 w'
set_option maxHeartbeats 2000000 in
set_option maxRecDepth 100000 in
theorem cut_any (a : Frm.Ak) (A : Option Addr) (n c m : Nat) (w : World) (h : Rs w A n c a.rs) (hm : min n 260 = m) :
    Calls Tryd.prog 12 #[av a A n c] w (CutPost w a m) := by
  have hmin : min (n : Int) 260 = (m : Int) := by omega
  have hmn : m ≤ n := by omega
  have hb1 := laterA (Below.refl w.heap.size w) (.cells #[.int .i64 a.d, .slice A n c, .bool a.mkd, .int .i64 a.e0, .int .i64 a.e1, .int .i64 a.e2] 25)
  have hb2 := laterA hb1 (.cells #[.int .i64 0, .slice none 0 0, .bool false, .int .i64 0, .int .i64 0, .int .i64 0] 25)
  have hx1 := (Blk.new w 25 #[.int .i64 a.d, .slice A n c, .bool a.mkd, .int .i64 a.e0, .int .i64 a.e1, .int .i64 a.e2]).alloc (.cells #[.int .i64 0, .slice none 0 0, .bool false, .int .i64 0, .int .i64 0, .int .i64 0] 25)
  have hx2 := Blk.new2 w (.cells #[.int .i64 a.d, .slice A n c, .bool a.mkd, .int .i64 a.e0, .int .i64 a.e1, .int .i64 a.e2] 25) 25 #[.int .i64 0, .slice none 0 0, .bool false, .int .i64 0, .int .i64 0, .int .i64 0]
  have hC := rcopy_any a A n c _ (h.later hb2)
  unfold av at hC ⊢
  clear h hb1 hm
  replace hx1 := Lib.hid hx1
  replace hx2 := Lib.hid hx2
  replace hb2 := Lib.hid hb2
  go_enter Tryd.func12, Tryd.ntmps12
  go_wp2_with fail
  with_reducible refine hC.mono ?_
  clear hC
  rintro e w1 ⟨A1, c1, rfl, hown, hb⟩
  simp only [av]
  obtain ⟨A1', c1', hA1, hrg, hfr⟩ := hown.rg
  injection hA1 with hA1 hA2 hA3
  subst hA1 hA2 hA3
  obtain ⟨A2, hsl, hrg2, hfr2⟩ := rg_to hrg (K := m) hmn
  have hfr3 := hfr2 _ hfr
  have hy1 := hx1.out.later hb
  have hy2 := hx2.out.later hb
  have hb3 := old_later2 hb2.out hb hb2.out.size
  have y0 := hy1.cell 0
  have y1 := hy1.cell 1
  have y2 := hy1.cell 2
  have y3 := hy1.cell 3
  have y4 := hy1.cell 4
  have y5 := hy1.cell 5
  have x0 := hy1.frozen 0
  have x1 := hy1.frozen 1
  have x2 := hy1.frozen 2
  have x3 := hy1.frozen 3
  have x4 := hy1.frozen 4
  have x5 := hy1.frozen 5
  simp at y0 y1 y2 y3 y4 y5
  have hz1 := six_blk (v0 := .int .i64 a.d) (v1 := .slice A1 a.rs.length c1) (v2 := .bool a.mkd) (v3 := .int .i64 a.e0) (v4 := .int .i64 a.e1) (v5 := .int .i64 a.e2) hy1
  have ho1 := six_only (w := w1) (B := w.heap.size) (v0 := .int .i64 a.d) (v1 := .slice A1 a.rs.length c1) (v2 := .bool a.mkd) (v3 := .int .i64 a.e0) (v4 := .int .i64 a.e1) (v5 := .int .i64 a.e2)
  have hfr4 : ∀ x, A2 = some x → w.heap.size + 2 ≤ x.block := fun x hx => by have := hfr3 x hx; simpa using this
  have hz2 := hy2.only ho1 (by simp)
  have hr2 := hrg2.only ho1 (fun x hx hf => by have := hfr4 x hx; omega)
  have hb4 := only_old hb3 ho1 (by rintro i rfl; exact Nat.le_refl _) hb3.size
  obtain ⟨W1, hW1⟩ : ∃ W, six w1 w.heap.size (.int .i64 a.d) (.slice A1 a.rs.length c1) (.bool a.mkd) (.int .i64 a.e0) (.int .i64 a.e1) (.int .i64 a.e2) = W := ⟨_, rfl⟩
  rw [hW1] at hz1 hz2 hr2 hb4
  unfold six at hW1
  have k1 := hz1.cell 1
  have q1 := hz1.frozen 1
  simp at k1
  have hz3 := hz1.set_ 1 (.slice A2 m c1)
  have ho2 : Only (· = w.heap.size) W1 (W1.setCell ⟨w.heap.size, 1, none⟩ (.slice A2 m c1)) := Only.set (F := (· = w.heap.size)) (p := ⟨w.heap.size, 1, none⟩) (Only.refl _ W1) rfl _
  have hz4 := hz2.only ho2 (by simp)
  have hr3 := hr2.only ho2 (fun x hx hf => by have := hfr4 x hx; omega)
  have hb5 := only_old hb4 ho2 (by rintro i rfl; exact Nat.le_refl _) hb4.size
  obtain ⟨W2, hW2⟩ : ∃ W, W1.setCell ⟨w.heap.size, 1, none⟩ (.slice A2 m c1) = W := ⟨_, rfl⟩
  rw [hW2] at hz3 hz4 hr3 hb5
  have r0 := hz3.cell 0
  have r1 := hz3.cell 1
  have r2 := hz3.cell 2
  have r3 := hz3.cell 3
  have r4 := hz3.cell 4
  have r5 := hz3.cell 5
  have s0 := hz4.cell 0
  have s1 := hz4.cell 1
  have s2 := hz4.cell 2
  have s3 := hz4.cell 3
  have s4 := hz4.cell 4
  have s5 := hz4.cell 5
  have t0 := hz4.frozen 0
  have t1 := hz4.frozen 1
  have t2 := hz4.frozen 2
  have t3 := hz4.frozen 3
  have t4 := hz4.frozen 4
  have t5 := hz4.frozen 5
  simp at r0 r1 r2 r3 r4 r5 s0 s1 s2 s3 s4 s5
  clear hown hrg hrg2 hfr hfr2 hfr3 hy1 hy2 hb3 hz1 hz2 ho1 hr2 hb4 ho2 hb
  replace hz3 := Lib.hid hz3
  replace hz4 := Lib.hid hz4
  replace hr3 := Lib.hid hr3
  replace hb5 := Lib.hid hb5
  replace hfr4 := Lib.hid hfr4
  go_wp2_with fail
  refine bodyPost_ret (results_c1 rfl _ _ rfl (six_blk hz4.out) rfl) rfl ?_
  exact ⟨A2, c1, rfl, hr3.out.only six_only (fun x hx hf => by have := hfr4.out x hx; omega), fun x hx => by have := hfr4.out x hx; omega, only_old hb5.out six_only (by rintro i rfl; exact Nat.le_succ _) hb5.out.size⟩
set_option maxHeartbeats 2000000 in
set_option maxRecDepth 100000 in
theorem rclone_any (A : Option Addr) (n c : Nat) (rs : List (Int × Int)) (w : World) (h : Rs w A n c rs) :
    Calls Tryd.prog 44 #[.slice A n c] w fun e w' => ∃ A' c', e = .returned (.slice A' n c') ∧ OwnS encR 36 2 w' w.heap.size (.slice A' n c') rs ∧ Below w.heap.size w w' := by
  have q22 : ∀ (w : World) (a : Option Addr) (n c n' c' : Nat), (binOp .eql 22 (.slice a n c) (.slice none n' c')).run Tryd.prog w = .ok (.bool a.isNone) w := fun w a n c n' c' => Lib.run_eql_slice_nil w _ _ a n c n' c' Tryd.underlying22
  have hn := h.1
  by_cases hA : A = none
  · subst hA
    obtain ⟨h1, h2, h3, h4, ⟨_, rfl, rfl⟩ | ⟨a, ha, _⟩⟩ := h
    · have hm : rs = [] := List.length_eq_zero_iff.1 h1
      subst hm
      go_enter Tryd.func44, Tryd.ntmps44
      go_wp2
      go_ret
      exact ⟨none, 0, rfl, OwnS.nil _, Below.refl _ _⟩
    · cases ha
  · obtain ⟨x, rfl⟩ : ∃ x, A = some x := by
      cases A with
      | none => exact absurd rfl hA
      | some x => exact ⟨x, rfl⟩
    clear hA
    have hl := laterA (Below.refl w.heap.size w) (.cells #[] 36)
    have h2 := h.later hl
    have hB := Blk.new w 36 #[]
    have hown : OwnS encR 36 2 (w.alloc (.cells #[] 36)) w.heap.size (.slice (some ⟨w.heap.size, 0, none⟩) 0 0) [] := ⟨rfl, .inr ⟨w.heap.size, 0, #[], rfl, Nat.le_refl _, hB, by simp, by simp [maxLen], by simp, by simp⟩⟩
    clear h hB
    have hn' := Lib.hid hn
    clear hn
    replace hl := Lib.hid hl
    replace h2 := Lib.hid h2
    replace hown := Lib.hid hown
    go_enter Tryd.func44, Tryd.ntmps44
    go_wp2_with (at_builtin; refine wpList_apps (rs := rs) (l := []) (A := some x) (n := n) (c := c) (B := w.heap.size) rfl _ _ rfl rfl rfl hown.out h2.out rfl (by simp) ?_)
    intro v3 w5 hown2 hg
    have hb := only_old hl.out (Only.of_row hg) (fun i hi => by
      have : i = w.heap.size := by simpa [Value.ownBlock] using hi.symm
      omega) hl.out.size
    obtain ⟨A3, c3, rfl, _, _⟩ := hown2.rg
    rw [hn'.out] at hown2 ⊢
    replace hown2 := Lib.hid hown2
    replace hb := Lib.hid hb
    clear hg
    go_wp2
    go_ret
    exact ⟨A3, c3, rfl, hown2.out, hb.out⟩
set_option maxHeartbeats 2000000 in
set_option maxRecDepth 100000 in
theorem fcopy_any (a : Frm.Ak) (A : Option Addr) (n c : Nat) (w : World) (h : Rs w A n c a.rs) :
    Calls Tryd.prog 22 #[av a A n c] w (CopyPost w a n) := by
  have hb1 := laterA (Below.refl w.heap.size w) (.cells #[.int .i64 a.d, .slice A n c, .bool a.mkd, .int .i64 a.e0, .int .i64 a.e1, .int .i64 a.e2] 25)
  have hb2 := laterA hb1 (.cells #[.int .i64 0, .slice none 0 0, .bool false, .int .i64 0, .int .i64 0, .int .i64 0] 25)
  have hx1 := (Blk.new w 25 #[.int .i64 a.d, .slice A n c, .bool a.mkd, .int .i64 a.e0, .int .i64 a.e1, .int .i64 a.e2]).alloc (.cells #[.int .i64 0, .slice none 0 0, .bool false, .int .i64 0, .int .i64 0, .int .i64 0] 25)
  have hx2 := Blk.new2 w (.cells #[.int .i64 a.d, .slice A n c, .bool a.mkd, .int .i64 a.e0, .int .i64 a.e1, .int .i64 a.e2] 25) 25 #[.int .i64 0, .slice none 0 0, .bool false, .int .i64 0, .int .i64 0, .int .i64 0]
  have hC := rclone_any A n c a.rs _ (h.later hb2)
  unfold av
  clear h hb1
  replace hx1 := Lib.hid hx1
  replace hx2 := Lib.hid hx2
  replace hb2 := Lib.hid hb2
  go_enter Tryd.func22, Tryd.ntmps22
  go_wp2_with fail
  with_reducible refine hC.mono ?_
  clear hC
  rintro e w5 ⟨A3, c3, rfl, hown, hb5⟩
  have hy1 := hx1.out.later hb5
  have hy2 := hx2.out.later hb5
  have hb6 := old_later2 hb2.out hb5 hb2.out.size
  have k1 := hy1.cell 1
  have q1 := hy1.frozen 1
  simp at k1
  have hy3 := hy1.set_ 1 (.slice A3 n c3)
  have hy4 : Blk (w5.setCell ⟨w.heap.size, 1, none⟩ (.slice A3 n c3)) (w.heap.size + 1) 25 _ := hy2.far (p := ⟨w.heap.size, 1, none⟩) (by simp) (.slice A3 n c3)
  have hown6 := hown.only (Only.set (F := (· = w.heap.size)) (p := ⟨w.heap.size, 1, none⟩) (Only.refl _ w5) rfl (.slice A3 n c3)) (fun g hg hf => by subst hf; exact OwnS.ne hown hy1 (by decide) hg)
  have hb7 := below_wr hb6 (Nat.le_refl _) 1 (.slice A3 n c3)
  obtain ⟨W6, hW6⟩ : ∃ W, w5.setCell ⟨w.heap.size, 1, none⟩ (.slice A3 n c3) = W := ⟨_, rfl⟩
  rw [hW6] at hy3 hy4 hown6 hb7
  have z0 := hy3.cell 0
  have z1 := hy3.cell 1
  have z2 := hy3.cell 2
  have z3 := hy3.cell 3
  have z4 := hy3.cell 4
  have z5 := hy3.cell 5
  have y0 := hy4.cell 0
  have y1 := hy4.cell 1
  have y2 := hy4.cell 2
  have y3 := hy4.cell 3
  have y4 := hy4.cell 4
  have y5 := hy4.cell 5
  have x0 := hy4.frozen 0
  have x1 := hy4.frozen 1
  have x2 := hy4.frozen 2
  have x3 := hy4.frozen 3
  have x4 := hy4.frozen 4
  have x5 := hy4.frozen 5
  simp at z0 z1 z2 z3 z4 z5 y0 y1 y2 y3 y4 y5
  clear hb5 hy1 hy2 hb6 hown
  replace hy3 := Lib.hid hy3
  replace hy4 := Lib.hid hy4
  replace hown6 := Lib.hid hown6
  replace hb7 := Lib.hid hb7
  go_wp2_with fail
  refine bodyPost_ret (results_c1 rfl _ _ rfl (six_blk hy4.out) rfl) rfl ?_
  have hown7 := hown6.out.only (six_only (v0 := .int .i64 a.d) (v1 := .slice A3 n c3) (v2 := .bool a.mkd) (v3 := .int .i64 a.e0) (v4 := .int .i64 a.e1) (v5 := .int .i64 a.e2)) (fun g hg hf => by subst hf; exact OwnS.ne hown6.out hy4.out (by decide) hg)
  exact ⟨A3, c3, rfl, hown7.low_base (by simp; omega), only_old hb7.out six_only (by rintro i rfl; exact Nat.le_succ _) hb7.out.size⟩
/-- The first ranges may be. -/
def pk (rs : List (Int × Int)) (k : Nat) : Bool := (rs.take k).all Frm.okR && Frm.gapsOk (rs.take k)
theorem gapsOk_snoc : ∀ (l : List (Int × Int)) (p x : Int × Int), Frm.gapsOk (l ++ [p] ++ [x]) = (Frm.gapsOk (l ++ [p]) && decide (x.2 ≤ p.1 - 2))
  | [], p, x => by simp [Frm.gapsOk]
  | [q], p, x => by simp [Frm.gapsOk]
  | q :: r :: t, p, x => by
    have ih := gapsOk_snoc (r :: t) p x
    simp only [List.cons_append, Frm.gapsOk] at ih ⊢
    rw [ih, Bool.and_assoc]
theorem pk_zero (rs : List (Int × Int)) : pk rs 0 = true := rfl
theorem pk_one {rs : List (Int × Int)} {x : Int × Int} (h : rs[0]? = some x) : pk rs 1 = Frm.okR x := by
  cases rs with
  | nil => simp at h
  | cons y t =>
    simp at h
    subst h
    simp [pk, Frm.gapsOk]
theorem pk_two {rs : List (Int × Int)} {k : Nat} {p x : Int × Int} (hp : rs[k]? = some p) (hx : rs[k + 1]? = some x) : pk rs (k + 1 + 1) = (pk rs (k + 1) && Frm.okR x && decide (x.2 ≤ p.1 - 2)) := by
  have e1 : rs.take (k + 1) = rs.take k ++ [p] := by rw [List.take_add_one, hp]; rfl
  have e2 : rs.take (k + 1 + 1) = rs.take k ++ [p] ++ [x] := by rw [List.take_add_one, hx, e1]; rfl
  unfold pk
  rw [e2, gapsOk_snoc, ← e1, List.all_append]
  simp only [List.all_cons, List.all_nil, Bool.and_true]
  cases (rs.take (k + 1)).all Frm.okR <;> cases Frm.okR x <;> cases Frm.gapsOk (rs.take (k + 1)) <;> cases decide (x.2 ≤ p.1 - 2) <;> rfl
theorem pk_end {rs : List (Int × Int)} {k : Nat} (h : rs.length ≤ k) : pk rs k = (rs.all Frm.okR && Frm.gapsOk rs) := by unfold pk; rw [List.take_of_length_le h]
theorem pk_at {rs : List (Int × Int)} {k : Nat} {p : Int × Int} (h : pk rs (k + 1) = true) (hp : rs[k]? = some p) : Frm.okR p = true := by
  unfold pk at h
  rw [List.take_add_one, hp, List.all_append] at h
  simp only [Bool.and_eq_true] at h
  simpa using h.1.2
theorem pk_false {rs : List (Int × Int)} {k : Nat} (h : pk rs k = false) (hk : k < rs.length) : pk rs (k + 1) = false := by
  cases k with
  | zero => rw [pk_zero] at h; cases h
  | succ k =>
    rw [pk_two (List.getElem?_eq_getElem (by omega)) (List.getElem?_eq_getElem hk), h]
    rfl
/-- The first marks may be. -/
def ek (a : Frm.Ak) : Nat → Bool
  | 0 => true
  | 1 => Frm.okE a.mkd a.e0
  | 2 => Frm.okE a.mkd a.e0 && Frm.okE a.mkd a.e1
  | _ => Frm.okE a.mkd a.e0 && Frm.okE a.mkd a.e1 && Frm.okE a.mkd a.e2
theorem chk_pk (a : Frm.Ak) : Frm.chk a = (decide (1 ≤ a.rs.length) && decide (a.rs.length ≤ 256) && Frm.isN a.d && pk a.rs a.rs.length && ek a 3) := by
  rw [pk_end (Nat.le_refl _)]
  unfold Frm.chk ek
  simp only [Bool.and_assoc]
theorem okR_parts (lo hi : Int) : Frm.okR (lo, hi) = (Frm.isN lo && Frm.isN hi && decide (lo ≤ hi)) := rfl
set_option maxHeartbeats 4000000 in
set_option maxRecDepth 100000 in
theorem rcheck_any (a : Frm.Ak) (A : Option Addr) (m c : Nat) (w : World) (hr : Rg w A m c a.rs) (hm : m ≤ 1000) :
    Calls Tryd.prog 16 #[av a A m c] w (ChkPost w a) := by
  have hlen := hr.1
  have hbx := Blk.new w 25 #[.int .i64 a.d, .slice A m c, .bool a.mkd, .int .i64 a.e0, .int .i64 a.e1, .int .i64 a.e2]
  have hlow := laterA (Below.refl w.heap.size w) (.cells #[.int .i64 a.d, .slice A m c, .bool a.mkd, .int .i64 a.e0, .int .i64 a.e1, .int .i64 a.e2] 25)
  have hr2 := hr.later hlow
  obtain ⟨Y, hY⟩ : ∃ Y, Frm.chk a = Y := ⟨_, rfl⟩
  have hYe : Y = (decide (1 ≤ m) && decide (m ≤ 256) && Frm.isN a.d && pk a.rs m && ek a 3) := by rw [← hY, chk_pk, hlen]
  unfold ChkPost av
  rw [hY]
  obtain ⟨R, hR⟩ : ∃ R : Int, (if Y = true then 0 else 2) = R := ⟨_, rfl⟩
  rw [hR]
  have hN := risn_any a.d
  obtain ⟨W, hW⟩ : ∃ W, w.alloc (.cells #[.int .i64 a.d, .slice A m c, .bool a.mkd, .int .i64 a.e0, .int .i64 a.e1, .int .i64 a.e2] 25) = W := ⟨_, rfl⟩
  rw [hW] at hbx hlow hr2
  have d0 := hbx.cell 0
  have d1 := hbx.cell 1
  simp at d0 d1
  clear hr hY
  replace hYe := Lib.hid hYe
  replace hbx := Lib.hid hbx
  replace hlow := Lib.hid hlow
  replace hr2 := Lib.hid hr2
  replace hR := Lib.hid hR
  by_cases h1 : 1 ≤ m
  · by_cases h2 : m ≤ 256
    · have k1 : (m : Int) ≥ 1 := by omega
      have k2 : (m : Int) ≤ 256 := by omega
      go_enter Tryd.func16, Tryd.ntmps16
      go_wp2_with fail
      with_reducible refine (hN _).mono ?_
      rintro e w1 ⟨rfl, rfl⟩
      go_wp2_with fail
      go_loopw [3, 4] (fun ok i wr => ∃ k : Nat, ok = .bool (Frm.isN a.d && pk a.rs k) ∧ i = .int .i64 (k : Int) ∧ k ≤ m ∧ Below w.heap.size w wr ∧ Blk wr w.heap.size 25 #[.int .i64 a.d, .slice A m c, .bool a.mkd, .int .i64 a.e0, .int .i64 a.e1, .int .i64 a.e2] ∧ Rg wr A m c a.rs) (fun _ i _ => m - (intOf i).toNat)
      case atStart => exact ⟨0, by rw [pk_zero, Bool.and_true], rfl, Nat.zero_le _, hlow.out, hbx.out, hr2.out⟩
      case round =>
        obtain ⟨k, rfl, rfl, hk, hl3, hb3, hr3⟩ := hrel
        have c1 := hb3.cell 1
        simp at c1
        by_cases hkm : k < m
        · have hki : (k : Int) < (m : Int) := by omega
          obtain ⟨q, off, rfl, hq, hcs⟩ := hr3.at (by omega)
          have hkl : k < a.rs.length := by omega
          obtain ⟨lo, hi, hx⟩ : ∃ lo hi, a.rs[k] = (lo, hi) := ⟨_, _, rfl⟩
          have hx? : a.rs[k]? = some (lo, hi) := by rw [List.getElem?_eq_getElem hkl, hx]
          obtain ⟨g0, g1⟩ := hcs k (lo, hi) hx?
          simp only at g0 g1
          have hwk : IntKind.i64.wrap ((k : Int) + 1) = (k : Int) + 1 := IntWalk.i64_in _ (by omega)
          have hlx := laterA (Below.refl wr.heap.size wr) (.cells #[.int .i64 lo, .int .i64 hi] 36)
          have hl4 := fun nq => laterNq (laterA hl3 (.cells #[.int .i64 lo, .int .i64 hi] 36)) nq
          have hb4 := fun nq => (hb3.later hlx).drewN nq
          have hr4 := fun nq => (hr3.later hlx).later (laterNq (Below.refl _ _) nq)

          cases hB : (Frm.isN a.d && pk a.rs k) with
          | false =>
            have hB2 : (Frm.isN a.d && pk a.rs (k + 1)) = false := by
              cases hd : Frm.isN a.d with
              | false => rfl
              | true =>
                rw [hd, Bool.true_and] at hB
                rw [pk_false hB hkl, Bool.and_false]
            replace hB2 := Lib.hid hB2
            replace hB := Lib.hid hB
            replace hl3 := Lib.hid hl3
            replace hb3 := Lib.hid hb3
            replace hr3 := Lib.hid hr3
            replace hl4 := Lib.hid hl4
            replace hb4 := Lib.hid hb4
            replace hr4 := Lib.hid hr4
            replace hcs := Lib.hid hcs
            replace hx := Lib.hid hx
            replace hx? := Lib.hid hx?
            replace hlx := Lib.hid hlx
            go_wp2_with fail
            go_quiet (fail)
            go_wp2_with fail
            refine ⟨⟨k + 1, by rw [hB2.out], by simp, by omega, hl4.out _, hb4.out _, hr4.out _⟩, ?_⟩
            simp only [intOf]
            omega

          | true =>
            obtain ⟨hd1, hpk⟩ := (Bool.and_eq_true _ _).mp hB
            have h1N := risn_any lo
            have h2N := risn_any hi
            have ho := okR_parts lo hi
            have hok2 : Frm.okR (lo, hi) = false → (Frm.isN a.d && pk a.rs (k + 1)) = false := fun hf => by
              cases k with
              | zero => rw [pk_one hx?, hf, Bool.and_false]
              | succ j => rw [pk_two (List.getElem?_eq_getElem (by omega)) hx?, hf, Bool.and_false, Bool.false_and, Bool.and_false]
            replace hB := Lib.hid hB
            replace hl3 := Lib.hid hl3
            replace hb3 := Lib.hid hb3
            replace hr3 := Lib.hid hr3
            replace hl4 := Lib.hid hl4
            replace hb4 := Lib.hid hb4
            replace hr4 := Lib.hid hr4
            replace hx := Lib.hid hx
            replace hx? := Lib.hid hx?
            replace hlx := Lib.hid hlx
            cases hi1 : Frm.isN lo with
            | false =>
              have hBf := hok2 (by rw [ho, hi1]; rfl)
              simp only [hi1] at h1N
              replace hBf := Lib.hid hBf
              replace h1N := Lib.hid h1N
              replace h2N := Lib.hid h2N
              clear ho hok2 hd1 hpk hcs
              go_wp2_with fail
              go_quiet (first | (go_at_call 40; with_reducible exact quiet_left (h1N.out _)) | (go_at_call 40; with_reducible exact quiet_left (h2N.out _)) | fail)
              go_wp2_with fail
              refine ⟨⟨k + 1, by rw [hBf.out], by simp, by omega, hl4.out _, hb4.out _, hr4.out _⟩, ?_⟩
              simp only [intOf]
              omega

            | true =>
              simp only [hi1] at h1N
              cases hi2 : Frm.isN hi with
              | false =>
                have hBf := hok2 (by rw [ho, hi1, hi2]; rfl)
                simp only [hi2] at h2N
                replace hBf := Lib.hid hBf
                replace h1N := Lib.hid h1N
                replace h2N := Lib.hid h2N
                clear ho hok2 hd1 hpk hcs
                go_wp2_with fail
                go_quiet (first | (go_at_call 40; with_reducible exact quiet_left (h1N.out _)) | (go_at_call 40; with_reducible exact quiet_left (h2N.out _)) | fail)
                go_wp2_with fail
                refine ⟨⟨k + 1, by rw [hBf.out], by simp, by omega, hl4.out _, hb4.out _, hr4.out _⟩, ?_⟩
                simp only [intOf]
                omega

              | true =>
                simp only [hi2] at h2N
                have i1 := (Frm.isN_iff lo).1 hi1
                have i2 := (Frm.isN_iff hi).1 hi2
                by_cases hle : lo ≤ hi
                · have hokt : Frm.okR (lo, hi) = true := by rw [ho, hi1, hi2, decide_eq_true hle]; rfl
                  replace h1N := Lib.hid h1N
                  replace h2N := Lib.hid h2N
                  by_cases hk0 : k = 0
                  · subst hk0
                    simp only [Nat.zero_mul, Nat.add_zero] at g0 g1
                    have hBt : (Frm.isN a.d && pk a.rs (0 + 1)) = true := by rw [pk_one hx?.out, hokt, hd1]; rfl
                    replace hBt := Lib.hid hBt
                    clear ho hok2 hd1 hpk hcs
                    go_wp2_with fail
                    go_quiet (first | (go_at_call 40; with_reducible exact quiet_left (h1N.out _)) | (go_at_call 40; with_reducible exact quiet_left (h2N.out _)) | fail)
                    go_wp2_with fail
                    refine ⟨⟨0 + 1, by rw [hBt.out], by simp, by omega, hl4.out _, hb4.out _, hr4.out _⟩, ?_⟩
                    simp only [intOf]
                    omega

                  · obtain ⟨j, rfl⟩ : ∃ j, k = j + 1 := ⟨k - 1, by omega⟩
                    have hkz : ¬ ((j : Int) + 1 = 0) := by omega
                    have hkz2 : ((j : Int) + 1 == 0) = false := by simpa using hkz
                    have hki2 : (j : Int) + 1 < (m : Int) := by omega
                    have hjm : j < m := by omega
                    have hjm2 : (j : Int) < (m : Int) := by omega
                    obtain ⟨lo2, hi2', hx2⟩ : ∃ lo hi, a.rs[j]'(by omega) = (lo, hi) := ⟨_, _, rfl⟩
                    have hx2? : a.rs[j]? = some (lo2, hi2') := by rw [List.getElem?_eq_getElem (by omega), hx2]
                    obtain ⟨f0, _⟩ := hcs j (lo2, hi2') hx2?
                    simp only at f0
                    have o2 := (Frm.okR_iff _).1 (pk_at hpk hx2?)
                    simp only at o2
                    have w1 : IntKind.i64.wrap ((j : Int) + 1 - 1) = j := by rw [IntWalk.i64_in _ (by omega)]; omega
                    have w2 : IntKind.i64.wrap (lo2 - 2) = lo2 - 2 := IntWalk.i64_in _ (by omega)
                    have w4 : IntKind.i64.wrap ((j : Int) + 1 + 1) = (j : Int) + 1 + 1 := IntWalk.i64_in _ (by omega)
                    have hcast : ((j + 1 : Nat) : Int) = (j : Int) + 1 := by omega
                    have y1 := (hlx.out.cell (p := ⟨q, off + j * 2, none⟩) hq).trans f0
                    have y2 := (hb3.out.later hlx.out).cell 1
                    simp at y2
                    have hp2 : (Frm.isN a.d && pk a.rs (j + 1 + 1)) = decide (hi ≤ lo2 - 2) := by rw [pk_two hx2? hx?.out, hokt, hd1, hpk]; rfl
                    replace hp2 := Lib.hid hp2
                    rw [hcast] at hwk hki ⊢
                    clear ho hok2 hd1 hpk hcs hx2 hx2? o2
                    by_cases hg : hi ≤ lo2 - 2
                    · have hBt := hp2.out
                      rw [decide_eq_true hg] at hBt
                      replace hBt := Lib.hid hBt
                      go_wp2_with fail
                      go_quiet (first | (go_at_call 40; with_reducible exact quiet_left (h1N.out _)) | (go_at_call 40; with_reducible exact quiet_left (h2N.out _)) | fail)
                      go_wp2_with fail
                      refine ⟨⟨j + 1 + 1, by rw [hBt.out], by simp, by omega, hl4.out _, hb4.out _, hr4.out _⟩, ?_⟩
                      simp only [intOf]
                      omega

                    · have hBt := hp2.out
                      rw [decide_eq_false hg] at hBt
                      replace hBt := Lib.hid hBt
                      go_wp2_with fail
                      go_quiet (first | (go_at_call 40; with_reducible exact quiet_left (h1N.out _)) | (go_at_call 40; with_reducible exact quiet_left (h2N.out _)) | fail)
                      go_wp2_with fail
                      refine ⟨⟨j + 1 + 1, by rw [hBt.out, decide_eq_false (Int.not_le.2 hg)], by simp, by omega, hl4.out _, hb4.out _, hr4.out _⟩, ?_⟩
                      simp only [intOf]
                      omega

                · have hBf := hok2 (by rw [ho, hi1, hi2, decide_eq_false hle]; rfl)
                  have hdf : decide (lo ≤ hi) = false := decide_eq_false hle
                  replace hBf := Lib.hid hBf
                  replace h1N := Lib.hid h1N
                  replace h2N := Lib.hid h2N
                  clear ho hok2 hd1 hpk hcs
                  go_wp2_with fail
                  go_quiet (first | (go_at_call 40; with_reducible exact quiet_left (h1N.out _)) | (go_at_call 40; with_reducible exact quiet_left (h2N.out _)) | fail)
                  go_wp2_with fail
                  refine ⟨⟨k + 1, by rw [hBf.out], by simp, by omega, hl4.out _, hb4.out _, hr4.out _⟩, ?_⟩
                  simp only [intOf]
                  omega

        · obtain rfl : m = k := by omega
          have hki : ¬ (m : Int) < (m : Int) := by omega
          have hlow5 := Lib.hid hl3
          have hbx5 := Lib.hid hb3
          obtain ⟨B, hB0⟩ : ∃ B, (Frm.isN a.d && pk a.rs m) = B := ⟨_, rfl⟩
          rw [hB0]
          replace hB0 := Lib.hid hB0

          clear hl3 hb3 hr3 d0 d1
          go_wp2_with fail
          have hmB := hlow5.out
          go_loopw [3, 6] (fun ok i wr => ∃ k : Nat, ok = .bool (B && ek a k) ∧ i = .int .i64 (k : Int) ∧ k ≤ 3 ∧ Below w.heap.size w wr ∧ Blk wr w.heap.size 25 #[.int .i64 a.d, .slice A m c, .bool a.mkd, .int .i64 a.e0, .int .i64 a.e1, .int .i64 a.e2]) (fun _ i _ => 3 - (intOf i).toNat)
          case atStart => exact ⟨0, by simp [ek], rfl, by omega, hlow5.out, hbx5.out⟩
          case round =>
            obtain ⟨k, rfl, rfl, hk, hl3, hb3⟩ := hrel
            by_cases hk3 : k < 3
            · have hki : (k : Int) < 3 := by omega
              have p2 := hb3.cell 2
              have p3 := hb3.cell 3
              have p4 := hb3.cell 4
              have p5 := hb3.cell 5
              simp at p2 p3 p4 p5

              cases hB : (B && ek a k) with
              | false =>
                have hB2 : (B && ek a (k + 1)) = false := by
                  rcases (show k = 0 ∨ k = 1 ∨ k = 2 by omega) with rfl | rfl | rfl
                  · simp only [ek, Bool.and_true] at hB
                    rw [hB]; rfl
                  · simp only [ek] at hB ⊢
                    rw [← Bool.and_assoc, hB]; rfl
                  · simp only [ek] at hB ⊢
                    rw [← Bool.and_assoc, hB]; rfl
                have hwk : IntKind.i64.wrap ((k : Int) + 1) = (k : Int) + 1 := IntWalk.i64_in _ (by omega)
                replace hB2 := Lib.hid hB2
                replace hB := Lib.hid hB
                replace hl3 := Lib.hid hl3
                replace hb3 := Lib.hid hb3
                go_wp2_with fail
                refine ⟨⟨k + 1, by rw [hB2.out], by simp, by omega, hl3.out, hb3.out⟩, ?_⟩
                simp only [intOf]
                omega
              | true =>
                obtain ⟨E, hE, hBE⟩ : ∃ E, wr.cell? ⟨w.heap.size, 3 + k, none⟩ = some (.int .i64 E) ∧ (B && ek a (k + 1)) = Frm.okE a.mkd E := by
                  rcases (show k = 0 ∨ k = 1 ∨ k = 2 by omega) with rfl | rfl | rfl
                  · simp only [ek, Bool.and_true] at hB
                    exact ⟨a.e0, p3, by rw [hB]; rfl⟩
                  · simp only [ek] at hB ⊢
                    exact ⟨a.e1, p4, by rw [← Bool.and_assoc, hB]; rfl⟩
                  · simp only [ek] at hB ⊢
                    exact ⟨a.e2, p5, by rw [← Bool.and_assoc, hB]; rfl⟩
                have hEN := risn_any E
                have hwk : IntKind.i64.wrap ((k : Int) + 1) = (k : Int) + 1 := IntWalk.i64_in _ (by omega)
                obtain ⟨mk, hmk⟩ : ∃ mk, a.mkd = mk := ⟨_, rfl⟩
                rw [hmk] at p2 hBE
                unfold Frm.okE at hBE
                clear p3 p4 p5 hmk
                replace hB := Lib.hid hB
                replace hl3 := Lib.hid hl3
                replace hb3 := Lib.hid hb3
                cases hi : Frm.isN E with
                | false =>
                  rw [hi, Bool.false_and] at hBE
                  replace hBE := Lib.hid hBE
                  simp only [hi] at hEN
                  go_wp2_with fail
                  with_reducible refine (hEN _).mono ?_
                  rintro e w2 ⟨rfl, rfl⟩
                  go_wp2_with fail
                  refine ⟨⟨k + 1, by rw [hBE.out], by simp, by omega, hl3.out, hb3.out⟩, ?_⟩
                  simp only [intOf]
                  omega
                | true =>
                  rw [hi, Bool.true_and] at hBE
                  simp only [hi] at hEN
                  cases mk with
                  | true =>
                    rw [Bool.true_or] at hBE
                    replace hBE := Lib.hid hBE
                    go_wp2_with fail
                    with_reducible refine (hEN _).mono ?_
                    rintro e w2 ⟨rfl, rfl⟩
                    go_wp2_with fail
                    refine ⟨⟨k + 1, by rw [hBE.out], by simp, by omega, hl3.out, hb3.out⟩, ?_⟩
                    simp only [intOf]
                    omega
                  | false =>
                    rw [Bool.false_or] at hBE
                    by_cases hz : E = 0
                    · subst hz
                      rw [decide_eq_true rfl] at hBE
                      replace hBE := Lib.hid hBE
                      go_wp2_with fail
                      with_reducible refine (hEN _).mono ?_
                      rintro e w2 ⟨rfl, rfl⟩
                      go_wp2_with fail
                      refine ⟨⟨k + 1, by rw [hBE.out], by simp, by omega, hl3.out, hb3.out⟩, ?_⟩
                      simp only [intOf]
                      omega
                    · rw [decide_eq_false hz] at hBE
                      replace hBE := Lib.hid hBE
                      have hzz : (E == 0) = false := by simpa using hz
                      go_wp2_with fail
                      with_reducible refine (hEN _).mono ?_
                      rintro e w2 ⟨rfl, rfl⟩
                      go_wp2_with fail
                      refine ⟨⟨k + 1, by rw [hBE.out], by simp, by omega, hl3.out, hb3.out⟩, ?_⟩
                      simp only [intOf]
                      omega

            · obtain rfl : k = 3 := by omega
              have hki : ¬ (3 : Int) < 3 := by omega

              have hY3 : Y = (B && ek a 3) := by rw [hYe.out, decide_eq_true h1, decide_eq_true h2, ← hB0.out]; rfl
              replace hY3 := Lib.hid hY3
              cases hB : (B && ek a 3) with
              | false =>
                replace hl3 := Lib.hid hl3
                replace hb3 := Lib.hid hb3
                replace hB := Lib.hid hB
                go_wp2
                go_ret
                exact ⟨by rw [← hR.out, hY3.out, hB.out]; rfl, hl3.out⟩
              | true =>
                replace hl3 := Lib.hid hl3
                replace hb3 := Lib.hid hb3
                replace hB := Lib.hid hB
                go_wp2
                go_ret
                exact ⟨by rw [← hR.out, hY3.out, hB.out]; rfl, hl3.out⟩

    · have k1 : (m : Int) ≥ 1 := by omega
      have k2 : ¬ (m : Int) ≤ 256 := by omega
      go_enter Tryd.func16, Tryd.ntmps16
      go_wp2_with fail
      go_loopw [3, 4] (fun ok i wr => ∃ k : Nat, ok = .bool (false) ∧ i = .int .i64 (k : Int) ∧ k ≤ m ∧ Below w.heap.size w wr ∧ Blk wr w.heap.size 25 #[.int .i64 a.d, .slice A m c, .bool a.mkd, .int .i64 a.e0, .int .i64 a.e1, .int .i64 a.e2] ∧ Rg wr A m c a.rs) (fun _ i _ => m - (intOf i).toNat)
      case atStart => exact ⟨0, rfl, rfl, Nat.zero_le _, hlow.out, hbx.out, hr2.out⟩
      case round =>
        obtain ⟨k, rfl, rfl, hk, hl3, hb3, hr3⟩ := hrel
        have c1 := hb3.cell 1
        simp at c1
        by_cases hkm : k < m
        · have hki : (k : Int) < (m : Int) := by omega
          obtain ⟨q, off, rfl, hq, hcs⟩ := hr3.at (by omega)
          have hkl : k < a.rs.length := by omega
          obtain ⟨lo, hi, hx⟩ : ∃ lo hi, a.rs[k] = (lo, hi) := ⟨_, _, rfl⟩
          have hx? : a.rs[k]? = some (lo, hi) := by rw [List.getElem?_eq_getElem hkl, hx]
          obtain ⟨g0, g1⟩ := hcs k (lo, hi) hx?
          simp only at g0 g1
          have hwk : IntKind.i64.wrap ((k : Int) + 1) = (k : Int) + 1 := IntWalk.i64_in _ (by omega)
          have hlx := laterA (Below.refl wr.heap.size wr) (.cells #[.int .i64 lo, .int .i64 hi] 36)
          have hl4 := fun nq => laterNq (laterA hl3 (.cells #[.int .i64 lo, .int .i64 hi] 36)) nq
          have hb4 := fun nq => (hb3.later hlx).drewN nq
          have hr4 := fun nq => (hr3.later hlx).later (laterNq (Below.refl _ _) nq)
          replace hl3 := Lib.hid hl3
          replace hb3 := Lib.hid hb3
          replace hr3 := Lib.hid hr3
          replace hl4 := Lib.hid hl4
          replace hb4 := Lib.hid hb4
          replace hr4 := Lib.hid hr4
          replace hcs := Lib.hid hcs
          replace hx := Lib.hid hx
          replace hx? := Lib.hid hx?
          replace hlx := Lib.hid hlx
          go_wp2_with fail
          go_quiet (fail)
          go_wp2_with fail
          refine ⟨⟨k + 1, rfl, by simp, by omega, hl4.out _, hb4.out _, hr4.out _⟩, ?_⟩
          simp only [intOf]
          omega

        · obtain rfl : m = k := by omega
          have hki : ¬ (m : Int) < (m : Int) := by omega
          have hlow5 := Lib.hid hl3
          have hbx5 := Lib.hid hb3

          clear hl3 hb3 hr3 d0 d1
          go_wp2_with fail
          have hmB := hlow5.out
          go_loopw [3, 6] (fun ok i wr => ∃ k : Nat, ok = .bool (false) ∧ i = .int .i64 (k : Int) ∧ k ≤ 3 ∧ Below w.heap.size w wr ∧ Blk wr w.heap.size 25 #[.int .i64 a.d, .slice A m c, .bool a.mkd, .int .i64 a.e0, .int .i64 a.e1, .int .i64 a.e2]) (fun _ i _ => 3 - (intOf i).toNat)
          case atStart => exact ⟨0, rfl, rfl, by omega, hlow5.out, hbx5.out⟩
          case round =>
            obtain ⟨k, rfl, rfl, hk, hl3, hb3⟩ := hrel
            by_cases hk3 : k < 3
            · have hki : (k : Int) < 3 := by omega
              have p2 := hb3.cell 2
              have p3 := hb3.cell 3
              have p4 := hb3.cell 4
              have p5 := hb3.cell 5
              simp at p2 p3 p4 p5

              have hwk : IntKind.i64.wrap ((k : Int) + 1) = (k : Int) + 1 := IntWalk.i64_in _ (by omega)
              replace hl3 := Lib.hid hl3
              replace hb3 := Lib.hid hb3
              go_wp2_with fail
              refine ⟨⟨k + 1, rfl, by simp, by omega, hl3.out, hb3.out⟩, ?_⟩
              simp only [intOf]
              omega

            · obtain rfl : k = 3 := by omega
              have hki : ¬ (3 : Int) < 3 := by omega

              have hYf : Y = false := by rw [hYe.out, decide_eq_false h2]; simp
              replace hYf := Lib.hid hYf
              replace hl3 := Lib.hid hl3
              replace hb3 := Lib.hid hb3
              go_wp2
              go_ret
              exact ⟨by rw [← hR.out, hYf.out]; rfl, hl3.out⟩

  · have k1 : ¬ (m : Int) ≥ 1 := by omega
    go_enter Tryd.func16, Tryd.ntmps16
    go_wp2_with fail
    go_loopw [3, 4] (fun ok i wr => ∃ k : Nat, ok = .bool (false) ∧ i = .int .i64 (k : Int) ∧ k ≤ m ∧ Below w.heap.size w wr ∧ Blk wr w.heap.size 25 #[.int .i64 a.d, .slice A m c, .bool a.mkd, .int .i64 a.e0, .int .i64 a.e1, .int .i64 a.e2] ∧ Rg wr A m c a.rs) (fun _ i _ => m - (intOf i).toNat)
    case atStart => exact ⟨0, rfl, rfl, Nat.zero_le _, hlow.out, hbx.out, hr2.out⟩
    case round =>
      obtain ⟨k, rfl, rfl, hk, hl3, hb3, hr3⟩ := hrel
      have c1 := hb3.cell 1
      simp at c1
      by_cases hkm : k < m
      · exact absurd hkm (by omega)
      · obtain rfl : m = k := by omega
        have hki : ¬ (m : Int) < (m : Int) := by omega
        have hlow5 := Lib.hid hl3
        have hbx5 := Lib.hid hb3

        clear hl3 hb3 hr3 d0 d1
        go_wp2_with fail
        have hmB := hlow5.out
        go_loopw [3, 6] (fun ok i wr => ∃ k : Nat, ok = .bool (false) ∧ i = .int .i64 (k : Int) ∧ k ≤ 3 ∧ Below w.heap.size w wr ∧ Blk wr w.heap.size 25 #[.int .i64 a.d, .slice A m c, .bool a.mkd, .int .i64 a.e0, .int .i64 a.e1, .int .i64 a.e2]) (fun _ i _ => 3 - (intOf i).toNat)
        case atStart => exact ⟨0, rfl, rfl, by omega, hlow5.out, hbx5.out⟩
        case round =>
          obtain ⟨k, rfl, rfl, hk, hl3, hb3⟩ := hrel
          by_cases hk3 : k < 3
          · have hki : (k : Int) < 3 := by omega
            have p2 := hb3.cell 2
            have p3 := hb3.cell 3
            have p4 := hb3.cell 4
            have p5 := hb3.cell 5
            simp at p2 p3 p4 p5

            have hwk : IntKind.i64.wrap ((k : Int) + 1) = (k : Int) + 1 := IntWalk.i64_in _ (by omega)
            replace hl3 := Lib.hid hl3
            replace hb3 := Lib.hid hb3
            go_wp2_with fail
            refine ⟨⟨k + 1, rfl, by simp, by omega, hl3.out, hb3.out⟩, ?_⟩
            simp only [intOf]
            omega

          · obtain rfl : k = 3 := by omega
            have hki : ¬ (3 : Int) < 3 := by omega

            have hYf : Y = false := by rw [hYe.out, decide_eq_false h1]; rfl
            replace hYf := Lib.hid hYf
            replace hl3 := Lib.hid hl3
            replace hb3 := Lib.hid hb3
            go_wp2
            go_ret
            exact ⟨by rw [← hR.out, hYf.out]; rfl, hl3.out⟩
/-- Has an ACK of the first ranges that number? -/
def inR2 (n : Int) (p : Int × Int) : Bool := decide (p.1 ≤ n) && decide (n ≤ p.2)
theorem has_any2 (a : Frm.Ak) (n : Int) : Frm.has a n = (Frm.chk a && a.rs.any (inR2 n)) := rfl
theorem any_take {rs : List (Int × Int)} {f : Int × Int → Bool} {k : Nat} {x : Int × Int} (hx : rs[k]? = some x) : (rs.take (k + 1)).any f = ((rs.take k).any f || f x) := by
  rw [List.take_add_one, hx, List.any_append]
  simp
theorem any_of_take {rs : List (Int × Int)} {f : Int × Int → Bool} {k : Nat} {x : Int × Int} (hx : rs[k]? = some x) (h : f x = true) : rs.any f = true := List.any_eq_true.2 ⟨x, List.mem_of_getElem? hx, h⟩
set_option maxHeartbeats 4000000 in
set_option maxRecDepth 100000 in
theorem rhas_any (a : Frm.Ak) (A : Option Addr) (m c : Nat) (n : Int) (w : World) (hr : Rg w A m c a.rs) (hm : m ≤ 1000) :
    Calls Tryd.prog 21 #[av a A m c, .int .i64 n] w fun e w' => e = .returned (.bool (Frm.has a n)) ∧ Below w.heap.size w w' := by
  have hlen := hr.1
  have hbx := Blk.new w 25 #[.int .i64 a.d, .slice A m c, .bool a.mkd, .int .i64 a.e0, .int .i64 a.e1, .int .i64 a.e2]
  have hlow := laterA (Below.refl w.heap.size w) (.cells #[.int .i64 a.d, .slice A m c, .bool a.mkd, .int .i64 a.e0, .int .i64 a.e1, .int .i64 a.e2] 25)
  have hr2 := hr.later hlow
  rw [has_any2]
  have hC := fun W (h : Rg W A m c a.rs) => rcheck_any a A m c W h hm
  unfold ChkPost av at hC
  unfold av
  obtain ⟨W, hW⟩ : ∃ W, w.alloc (.cells #[.int .i64 a.d, .slice A m c, .bool a.mkd, .int .i64 a.e0, .int .i64 a.e1, .int .i64 a.e2] 25) = W := ⟨_, rfl⟩
  rw [hW] at hbx hlow hr2
  have d1 := hbx.cell 1
  simp at d1
  clear hr
  cases hk : Frm.chk a with
  | false =>
    simp only [hk, Bool.false_eq_true, ↓reduceIte] at hC
    have hC2 := hC W hr2
    rw [Bool.false_and]
    have p0 := hbx.cell 0
    have p2 := hbx.cell 2
    have p3 := hbx.cell 3
    have p4 := hbx.cell 4
    have p5 := hbx.cell 5
    simp at p0 p2 p3 p4 p5
    clear hC hk
    replace hbx := Lib.hid hbx
    replace hlow := Lib.hid hlow
    replace hr2 := Lib.hid hr2
    replace hC2 := Lib.hid hC2
    by_cases hm0 : 0 < m
    · have hm1 : (0 : Int) < (m : Int) := by omega
      go_enter Tryd.func21, Tryd.ntmps21
      go_wp2_with fail
      refine wp_loop_rounds 1 ?_
      rw [rounds_succ]
      go_wp2_with fail
      with_reducible refine hC2.out.mono ?_
      rintro e w1 ⟨rfl, hb⟩
      have hb2 := old_later2 hlow.out hb hlow.out.size
      replace hb2 := Lib.hid hb2
      clear hb
      go_wp2
      go_ret
      exact ⟨rfl, hb2.out⟩
    · have hm1 : ¬ (0 : Int) < (m : Int) := by omega
      go_enter Tryd.func21, Tryd.ntmps21
      go_wp2_with fail
      refine wp_loop_rounds 1 ?_
      rw [rounds_succ]
      go_wp2
      go_ret
      exact ⟨rfl, hlow.out⟩
  | true =>
    simp only [hk, ↓reduceIte] at hC
    rw [Bool.true_and]
    clear hk
    replace hbx := Lib.hid hbx
    replace hlow := Lib.hid hlow
    replace hr2 := Lib.hid hr2
    replace hC := Lib.hid hC
    go_enter Tryd.func21, Tryd.ntmps21
    go_wp2_with fail
    go_loopw [5] (fun i wr => ∃ k : Nat, i = .int .i64 (k : Int) ∧ k ≤ m ∧ (a.rs.take k).any (inR2 n) = false ∧ Below w.heap.size w wr ∧ Blk wr w.heap.size 25 #[.int .i64 a.d, .slice A m c, .bool a.mkd, .int .i64 a.e0, .int .i64 a.e1, .int .i64 a.e2] ∧ Rg wr A m c a.rs) (fun i _ => m - (intOf i).toNat)
    case atStart => exact ⟨0, rfl, Nat.zero_le _, rfl, hlow.out, hbx.out, hr2.out⟩
    case round =>
      obtain ⟨k, rfl, hkm, hno, hl3, hb3, hr3⟩ := hrel
      have p0 := hb3.cell 0
      have p1 := hb3.cell 1
      have p2 := hb3.cell 2
      have p3 := hb3.cell 3
      have p4 := hb3.cell 4
      have p5 := hb3.cell 5
      simp at p0 p1 p2 p3 p4 p5
      by_cases hlt : k < m
      · have hki : (k : Int) < (m : Int) := by omega
        have hC2 := hC.out wr hr3
        have hwk : IntKind.i64.wrap ((k : Int) + 1) = (k : Int) + 1 := IntWalk.i64_in _ (by omega)
        obtain ⟨lo, hi, hx⟩ : ∃ lo hi, a.rs[k]'(by omega) = (lo, hi) := ⟨_, _, rfl⟩
        have hx? : a.rs[k]? = some (lo, hi) := by rw [List.getElem?_eq_getElem (by omega), hx]
        have hstep := any_take (f := inR2 n) hx?
        have hfull := any_of_take (f := inR2 n) hx?
        rw [hno, Bool.false_or] at hstep
        unfold inR2 at hstep hfull
        simp only at hstep hfull
        replace hl3 := Lib.hid hl3
        replace hb3 := Lib.hid hb3
        replace hr3 := Lib.hid hr3
        replace hno := Lib.hid hno
        replace hstep := Lib.hid hstep
        replace hfull := Lib.hid hfull
        replace hx := Lib.hid hx
        replace hx? := Lib.hid hx?
        go_wp2_with fail
        with_reducible refine hC2.mono ?_
        clear hC2 p0 p1 p2 p3 p4 p5
        rintro e w1 ⟨rfl, hb⟩
        have hl4 := old_later2 hl3.out hb hl3.out.size
        have hb4 := hb3.out.later hb
        have hr4 := hr3.out.later hb
        obtain ⟨q, off, rfl, hq, hcs⟩ := hr4.at (by omega)
        obtain ⟨g0, g1⟩ := hcs k (lo, hi) hx?.out
        simp only at g0 g1
        have p1 := hb4.cell 1
        simp at p1
        clear hcs hb hr3 hl3 hb3
        replace hl4 := Lib.hid hl4
        replace hb4 := Lib.hid hb4
        replace hr4 := Lib.hid hr4
        by_cases h1 : lo ≤ n
        · have h1' : n ≥ lo := h1
          by_cases h2 : n ≤ hi
          · have hT := hfull.out (by rw [decide_eq_true h1, decide_eq_true h2]; rfl)
            replace hT := Lib.hid hT
            go_wp2
            go_ret
            exact ⟨by have := hT.out; unfold inR2; rw [this]; rfl, hl4.out⟩
          · have hS := hstep.out
            rw [decide_eq_false h2, Bool.and_false] at hS
            replace hS := Lib.hid hS
            go_wp2_with fail
            refine ⟨⟨k + 1, by simp, by omega, hS.out, hl4.out, hb4.out, hr4.out⟩, ?_⟩
            simp only [intOf]
            omega
        · have h1' : ¬ n ≥ lo := h1
          have hS := hstep.out
          rw [decide_eq_false h1, Bool.false_and] at hS
          replace hS := Lib.hid hS
          go_wp2_with fail
          refine ⟨⟨k + 1, by simp, by omega, hS.out, hl4.out, hb4.out, hr4.out⟩, ?_⟩
          simp only [intOf]
          omega
      · obtain rfl : k = m := by omega
        have hki : ¬ (k : Int) < (k : Int) := by omega
        have hF : a.rs.any (inR2 n) = false := by rwa [List.take_of_length_le (by omega)] at hno
        replace hF := Lib.hid hF
        replace hl3 := Lib.hid hl3
        replace hb3 := Lib.hid hb3
        replace hr3 := Lib.hid hr3
        replace hno := Lib.hid hno
        go_wp2
        go_ret
        exact ⟨by rw [hF.out]; rfl, hl3.out⟩
/-- A block of integers as a slice of the call's own. -/
theorem oi_blk {w : World} {B g k : Nat} {ys : List Int} {cs : Array Value} (h : Blk w g 3 cs) (hc : cs.toList = ys.map (Value.int .i64)) (hk : ys.length = k) (hB : B ≤ g) (hm : k ≤ 10000) : OI w B (.slice (some ⟨g, 0, none⟩) k k) ys := by
  subst hk
  have hs : cs.size = ys.length := by rw [← Array.length_toList, hc, List.length_map]
  exact ⟨by simp, .inr ⟨g, ys.length, cs, rfl, hB, h, Nat.le_refl _, by unfold maxLen; omega, by omega, by rw [hc, List.take_of_length_le (by simp)]⟩⟩
theorem run_ois {w : World} {B h k : Nat} {ys : List Int} {v : Value} {l : List Int} {cs : Array Value} (ty : TypeId) (hv : OI w B v l) (hu : Blk w h 3 cs) (hc : cs.toList = ys.map (Value.int .i64)) (hk : ys.length = k) (hl : l.length + k ≤ 100000) (hB : B ≤ w.heap.size) :
    ∃ v' w', (Builtin.append_ #[40, 40] ty #[v, .slice (some ⟨h, 0, none⟩) k k]).run Tryd.prog w = .ok v' w' ∧ OI w' B v' (l ++ ys) ∧ w.grownBy w' v.ownBlock := by
  obtain ⟨i0, hi, hz0, hz1, hz2⟩ := info_parts' int_info
  obtain ⟨v', w', e1, e2, e3, _, e5⟩ := run_append_own_at (P := Tryd.prog) (w := w) B 40 ty 3 i0 (.int .i64 0) 1 8 Tryd.underlying40 hi hz0 hz1 hz2 rfl (by omega) v l.length (l.map (Value.int .i64)) hv ⟨h, 0, none⟩ k k (ys.map (Value.int .i64)) (by rw [List.length_map, hk, Nat.mul_one]) (fun j u hu' => by
    rw [add_lit0, Nat.zero_add, hu.cell, ← Array.getElem?_toList, hc]
    exact hu') (fun u hu' => by
    obtain ⟨x, _, rfl⟩ := List.mem_map.1 hu'
    rfl) (by unfold maxLen; omega) (by omega) hB
  refine ⟨v', w', e1, ?_, e3⟩
  unfold OI
  rw [List.length_append, List.map_append, hk]
  exact e2
theorem wpList_ois {w : World} {B h k : Nat} {ys : List Int} {v : Value} {l : List Int} {cs : Array Value} {ops : Array Oper} {rest : List Oper} {o : Oper} {a : Act} {Q : Exit → Act → World → Prop} (hgd : o.guard = none) (s x : Operand)
    (ho : o.op = .call { callee := .builtin .append, args := #[s, x], argTypes := #[40, 40] }) (hs : a.eval s = v) (hx : a.eval x = .slice (some ⟨h, 0, none⟩) k k) (hv : OI w B v l) (hu : Blk w h 3 cs) (hc : cs.toList = ys.map (Value.int .i64)) (hk : ys.length = k) (hl : l.length + k ≤ 100000) (hB : B ≤ w.heap.size)
    (hK : ∀ v' w', OI w' B v' (l ++ ys) → w.grownBy w' v.ownBlock → wpList Tryd.prog ops Q rest (a.put o.dst v') w') : wpList Tryd.prog ops Q (o :: rest) a w := by
  obtain ⟨v', w', e1, e2, e3⟩ := run_ois o.type hv hu hc hk hl hB
  exact Lib.wpList_append_run w hgd s x _ _ ho v _ hs hx v' w' e1 (hK v' w' e2 e3)
theorem step_ois {w : World} {B h k : Nat} {ys : List Int} {v : Value} {l : List Int} {cs : Array Value} {ops : Array Oper} {o : Oper} {a : Act} {K : Act → World → Prop} {Q : Exit → Act → World → Prop} {E : Prop} (hgd : o.guard = none) (s x : Operand)
    (ho : o.op = .call { callee := .builtin .append, args := #[s, x], argTypes := #[40, 40] }) (hs : a.eval s = v) (hx : a.eval x = .slice (some ⟨h, 0, none⟩) k k) (hv : OI w B v l) (hu : Blk w h 3 cs) (hc : cs.toList = ys.map (Value.int .i64)) (hk : ys.length = k) (hl : l.length + k ≤ 100000) (hB : B ≤ w.heap.size)
    (hK : ∀ v' w', OI w' B v' (l ++ ys) → w.grownBy w' v.ownBlock → K (a.put o.dst v') w') :
    if Region.wanted o (yielded ops a.tmps) = true then Oper.wp Tryd.prog o a w K Q else E := by
  have hw : Region.wanted o (yielded ops a.tmps) = true := by simp [Region.wanted, hgd]
  rw [if_pos hw]
  obtain ⟨v', w', hr, h2, h3⟩ := run_ois o.type hv hu hc hk hl hB
  unfold Oper.wp execOp
  simp only [ho, resolve, invoke, builtin, Sem.run_bind, Sem.run_pure, Result.andThen_ok, List.map_toArray, List.map_cons, List.map_nil, hs, hx, hr]
  exact hK v' w' h2 h3
theorem OI.row {w w' : World} {B g : Nat} {v : Value} {l : List Int} {t : TypeId} {cs : Array Value} (h : OI w B v l) (hg : w.grownBy w' v.ownBlock) (hk : Blk w g t cs) (hne : 3 ≠ t) : Blk w' g t cs :=
  (hg.block g hk.lt (fun he => by
    rcases h.2 with ⟨rfl, _⟩ | ⟨g', cap, cur, rfl, _, hh, _⟩
    · simp [Value.ownBlock] at he
    · have : g' = g := by simpa [Value.ownBlock] using he.symm
      subst this
      exact Blk.ne_ (t := 3) hh hk hne rfl)).trans hk
theorem OI.row_low {w0 w w' : World} {B : Nat} {v : Value} {l : List Int} (h : OI w B v l) (hg : w.grownBy w' v.ownBlock) (hb : Below w0.heap.size w0 w) (hB : w0.heap.size ≤ B) : Below w0.heap.size w0 w' :=
  only_old hb (Only.of_row hg) (fun i hi => Nat.le_trans hB (World.ownsRow.lt h i hi).1) hb.size
theorem OI.row_rg {w w' : World} {B : Nat} {v : Value} {l : List Int} {A : Option Addr} {n c : Nat} {rs : List (Int × Int)} (h : OI w B v l) (hg : w.grownBy w' v.ownBlock) (hr : Rg w A n c rs) (hA : ∀ x, A = some x → x.block < B) : Rg w' A n c rs :=
  hr.only (Only.of_row hg) (fun x hx hf => by have := hA x hx; have := (World.ownsRow.lt h x.block hf).1; omega)
theorem OI.slice {w : World} {B : Nat} {v : Value} {l : List Int} (h : OI w B v l) : ∃ A n c, v = .slice A n c := by
  rcases h.2 with ⟨rfl, _⟩ | ⟨g, cap, cur, rfl, _⟩
  · exact ⟨_, _, _, rfl⟩
  · exact ⟨_, _, _, rfl⟩
/-- The numbers of an ACK, in the order of the document's list. -/
def bl (a : Frm.Ak) (k : Nat) : List Int := (if a.mkd then 3 else 2) :: (a.rs.headD (0, 0)).2 :: a.d :: ((a.rs.length : Int) - 1) :: seqW true (gpn a.rs k)
theorem bl_len (a : Frm.Ak) (k : Nat) : (bl a k).length ≤ 4 + 2 * k := by
  have := seqW_len true (gpn a.rs k)
  rw [gpn_length] at this
  simp only [bl, List.length_cons]
  omega
theorem bl_succ (a : Frm.Ak) (k : Nat) (hk : 0 < k) : bl a (k + 1) = bl a k ++ [(gpk a.rs k).1, wdW (gpk a.rs k)] := by
  have he : (gpn a.rs k).isEmpty = false := by
    cases hg : gpn a.rs k with
    | nil => have := gpn_length a.rs k; rw [hg] at this; simp at this; omega
    | cons => rfl
  unfold bl
  rw [gpn_succ, seqW_snoc, he]
  rfl
def bm (a : Frm.Ak) : List Int := bl a a.rs.length ++ if a.mkd then [a.e0, a.e1, a.e2] else []
theorem bm_putL {a : Frm.Ak} (h : Frm.chk a = true) : putL [] (bm a) = (Frm.bytes a).1 := by
  rw [← bytes_putL h a.rs.length rfl]
  have e : bm a = (if a.mkd then 3 else 2) :: ([(a.rs.headD (0, 0)).2, a.d, (a.rs.length : Int) - 1] ++ seqW true (gpn a.rs a.rs.length) ++ if a.mkd then [a.e0, a.e1, a.e2] else []) := by simp [bm, bl]
  rw [e]
  have e1 : ∀ ns, putL [] ((if a.mkd then 3 else 2) :: ns) = putL [if a.mkd then 3 else 2] ns := fun ns => by
    show putL (Oct.put [] (if a.mkd then 3 else 2)).1 ns = _
    cases a.mkd <;> rfl
  rw [e1, putL_append, putL_append]
theorem bm_len {a : Frm.Ak} (h : Frm.chk a = true) : (bm a).length ≤ 600 := by
  have h1 := bl_len a a.rs.length
  obtain ⟨⟨p, t, hp, ht⟩, _⟩ := Frm.chk_parts h
  rw [hp] at h1
  simp only [List.length_cons] at h1
  unfold bm
  rw [List.length_append, hp, List.length_cons]
  split <;> simp <;> omega
set_option maxHeartbeats 4000000 in
set_option maxRecDepth 100000 in
theorem rbytes_any (a : Frm.Ak) (A : Option Addr) (m c : Nat) (w : World) (hr : Rg w A m c a.rs) (hm : m ≤ 1000) :
    Calls Tryd.prog 14 #[av a A m c] w (BytesPost w (Frm.bytes a)) := by
  have hlen := hr.1
  have hbx := Blk.new w 25 #[.int .i64 a.d, .slice A m c, .bool a.mkd, .int .i64 a.e0, .int .i64 a.e1, .int .i64 a.e2]
  have hlow := laterA (Below.refl w.heap.size w) (.cells #[.int .i64 a.d, .slice A m c, .bool a.mkd, .int .i64 a.e0, .int .i64 a.e1, .int .i64 a.e2] 25)
  have hr2 := hr.later hlow
  have hC := rcheck_any a A m c _ hr2 hm
  unfold ChkPost at hC
  unfold av at hC ⊢
  obtain ⟨W, hW⟩ : ∃ W, w.alloc (.cells #[.int .i64 a.d, .slice A m c, .bool a.mkd, .int .i64 a.e0, .int .i64 a.e1, .int .i64 a.e2] 25) = W := ⟨_, rfl⟩
  rw [hW] at hbx hlow hr2 hC
  have p0 := hbx.cell 0
  have p1 := hbx.cell 1
  have p2 := hbx.cell 2
  have p3 := hbx.cell 3
  have p4 := hbx.cell 4
  have p5 := hbx.cell 5
  simp at p0 p1 p2 p3 p4 p5
  clear hr
  cases hk : Frm.chk a with
  | false =>
    simp only [hk, Bool.false_eq_true, ↓reduceIte] at hC
    have hY : Frm.bytes a = ([], 2) := by unfold Frm.bytes; rw [hk]; rfl
    rw [hY]
    clear hk hY
    replace hbx := Lib.hid hbx
    replace hlow := Lib.hid hlow
    replace hr2 := Lib.hid hr2
    go_enter Tryd.func14, Tryd.ntmps14
    go_wp2_with fail
    with_reducible refine hC.mono ?_
    rintro e w1 ⟨rfl, hb⟩
    have hb2 := old_later2 hlow.out hb hlow.out.size
    replace hb2 := Lib.hid hb2
    clear hb hC
    go_wp2_with fail
    refine bodyPost_ret (results_tmp2 rfl _ _) rfl ?_
    exact ⟨0, none, 0, rfl, ⟨rfl, Nat.le_refl _, by simp [maxLen], .inl ⟨rfl, rfl, rfl⟩⟩, hb2.out⟩
  | true =>
    simp only [hk, ↓reduceIte] at hC
    obtain ⟨L, hY⟩ : ∃ L, Frm.bytes a = (L, 0) := ⟨(Frm.bytes a).1, by unfold Frm.bytes; rw [if_pos hk]⟩
    have hL := bm_putL hk
    have hbm := bm_len hk
    rw [hY] at hL ⊢
    simp only at hL
    obtain ⟨⟨pp, tt, hp, ht⟩, hd, hall, hgaps, _⟩ := Frm.chk_parts hk
    have hm1 : 0 < m := by rw [← hlen, hp]; simp
    have hm2 : m ≤ 256 := by rw [← hlen, hp]; simp; omega
    obtain ⟨q, off, rfl, hq, hcs⟩ := hr2.at hm1
    obtain ⟨lo0, hi0⟩ := pp
    have hx0 : a.rs[0]? = some (lo0, hi0) := by rw [hp]; rfl
    have hok0 := (Frm.okR_iff _).1 (List.all_eq_true.1 hall _ (List.mem_of_getElem? hx0))
    simp only at hok0
    have hbl1 : bl a 1 = [if a.mkd then 3 else 2, hi0, a.d, (m : Int) - 1, hi0 - lo0] := by
      have e0 : gpk a.rs 0 = (0, (lo0, hi0)) := by unfold gpk; rw [hx0]; rfl
      have e1 : gpn a.rs 1 = [(0, (lo0, hi0))] := by rw [gpn_succ, e0]; rfl
      unfold bl
      rw [e1, hlen, hp]
      simp only [List.headD_cons, seqW]
      rw [wdW_ok (x := (0, (lo0, hi0))) (by rw [Frm.okR_iff]; exact hok0)]
    have hw0 : IntKind.i64.wrap (hi0 - lo0) = hi0 - lo0 := IntWalk.i64_in _ (by omega)
    have hwm : IntKind.i64.wrap ((m : Int) - 1) = (m : Int) - 1 := IntWalk.i64_in _ (by omega)
    have hmi : (0 : Int) < (m : Int) := by omega
    unfold bm at hL hbm
    rw [hlen] at hL hbm
    clear hk hp hd hY
    cases hmk : a.mkd with
    | false =>
      rw [hmk] at hbl1 p2 hL hbm hC hW hbx
      simp only [Bool.false_eq_true, ↓reduceIte, List.append_nil] at hbl1 hL hbm
      replace hbx := Lib.hid hbx
      replace hlow := Lib.hid hlow
      replace hcs := Lib.hid hcs
      replace hx0 := Lib.hid hx0
      replace hok0 := Lib.hid hok0
      replace hbl1 := Lib.hid hbl1
      replace hL := Lib.hid hL
      replace hbm := Lib.hid hbm
      replace hall := Lib.hid hall
      replace hr2 := Lib.hid hr2
      replace hlen := Lib.hid hlen
      replace hmk := Lib.hid hmk
      go_enter Tryd.func14, Tryd.ntmps14
      go_wp2_with fail
      with_reducible refine hC.mono ?_
      clear hC p0 p1 p2 p3 p4 p5
      rintro e w1 ⟨rfl, hb⟩
      have hr3 := hr2.out.later hb
      have hbx3 := hbx.out.later hb
      have hlow3 := old_later2 hlow.out hb hlow.out.size
      have g0 := (hb.cell (p := ⟨q, off + 0 * 2, none⟩) hq).trans (hcs.out 0 _ hx0.out).1
      have g1 := (hb.cell (p := ⟨q, off + 0 * 2 + 1, none⟩) hq).trans (hcs.out 0 _ hx0.out).2
      have p0 := hbx3.cell 0
      have p1 := hbx3.cell 1
      have p2 := hbx3.cell 2
      simp at p0 p1 p2
      simp only [Nat.zero_mul, Nat.add_zero] at g0 g1
      have hl2 := laterA (Below.refl w1.heap.size w1) (.cells #[.int .i64 lo0, .int .i64 hi0] 36)
      have hr4 := hr3.later hl2
      have hbx4 := hbx3.later hl2
      have hlow4 := old_later2 hlow3 hl2 hlow3.size
      obtain ⟨W2, hW2⟩ : ∃ W, w1.alloc (.cells #[.int .i64 lo0, .int .i64 hi0] 36) = W := ⟨_, rfl⟩
      have hxr := Blk.new w1 36 #[.int .i64 lo0, .int .i64 hi0]
      rw [hW2] at hr4 hbx4 hlow4 hxr hl2
      have x0 := hxr.cell 0
      have x1 := hxr.cell 1
      have r0 := hbx4.cell 0
      have r1 := hbx4.cell 1
      simp at x0 x1 r0 r1
      have hl3 := laterA (Below.refl W2.heap.size W2) (.cells #[.int .i64 2, .int .i64 hi0, .int .i64 a.d, .int .i64 ((m : Int) - 1), .int .i64 (hi0 - lo0)] 3)
      have hr5 := hr4.later hl3
      have hbx5 := hbx4.later hl3
      have hlow5 := old_later2 hlow4 hl3 hlow4.size
      have hOI := oi_blk (B := W2.heap.size) (ys := [2, hi0, a.d, (m : Int) - 1, hi0 - lo0]) (Blk.new W2 3 #[.int .i64 2, .int .i64 hi0, .int .i64 a.d, .int .i64 ((m : Int) - 1), .int .i64 (hi0 - lo0)]) rfl (k := 5) rfl (Nat.le_refl _) (by omega)
      rw [← hbl1.out] at hOI
      have hqB : q < W2.heap.size := Nat.lt_of_lt_of_le hq (Nat.le_trans hb.size hl2.size)
      have hBB : w.heap.size < W2.heap.size := hbx4.lt
      have hbx6 := hbx4.later (laterA (Below.refl W2.heap.size W2) (.cells #[.int .i64 2, .int .i64 hi0, .int .i64 a.d, .int .i64 ((m : Int) - 1), .int .i64 (hi0 - lo0)] 3))
      have s2 := hbx6.cell 2
      simp at s2
      clear hbx6
      clear hb hcs hx0 hl2 hl3
      replace hqB := Lib.hid hqB
      replace hBB := Lib.hid hBB
      replace hr3 := Lib.hid hr3
      replace hbx3 := Lib.hid hbx3
      replace hlow3 := Lib.hid hlow3
      replace hr4 := Lib.hid hr4
      replace hbx4 := Lib.hid hbx4
      replace hlow4 := Lib.hid hlow4
      replace hr5 := Lib.hid hr5
      replace hbx5 := Lib.hid hbx5
      replace hlow5 := Lib.hid hlow5
      replace hOI := Lib.hid hOI
      replace hxr := Lib.hid hxr
      go_wp2_with fail

      go_loopw [6, 7] (fun lv iv wr => ∃ (k : Nat) (A3 : Option Addr) (n3 c3 : Nat), lv = .slice A3 n3 c3 ∧ iv = .int .i64 (k : Int) ∧ 1 ≤ k ∧ k ≤ m ∧ OI wr W2.heap.size (.slice A3 n3 c3) (bl a k) ∧ Below w.heap.size w wr ∧ Blk wr w.heap.size 25 #[.int .i64 a.d, .slice (some ⟨q, off, none⟩) m c, .bool false, .int .i64 a.e0, .int .i64 a.e1, .int .i64 a.e2] ∧ Rg wr (some ⟨q, off, none⟩) m c a.rs ∧ W2.heap.size ≤ wr.heap.size) (fun _ iv _ => m - (intOf iv).toNat)
      case atStart => exact ⟨1, _, _, _, rfl, rfl, Nat.le_refl _, hm1, hOI.out, hlow5.out, hbx5.out, hr5.out, by simp⟩
      case round =>
        obtain ⟨k, A3, n3, c3', rfl, rfl, hk1, hkm, hO, hl3, hb3, hr3, hsz3⟩ := hrel
        by_cases hlt : k < m
        · obtain ⟨j, rfl⟩ : ∃ j, k = j + 1 := ⟨k - 1, by omega⟩
          have hcast : ((j + 1 : Nat) : Int) = (j : Int) + 1 := by omega
          have hki : (j : Int) + 1 < (m : Int) := by omega
          have hjm2 : (j : Int) < (m : Int) := by omega
          have hjm : j < m := by omega
          have hj0 : (0 : Int) ≤ (j : Int) := by omega
          have wj : IntKind.i64.wrap (j : Int) = j := IntWalk.i64_in _ (by omega)
          obtain ⟨q', off', he, hq', hcs⟩ := hr3.at hm1
          injection he with he
          injection he with he1 he2 _
          subst he1 he2
          obtain ⟨lo, hi, hx⟩ : ∃ lo hi, a.rs[j + 1]'(by rw [hlen.out]; exact hlt) = (lo, hi) := ⟨_, _, rfl⟩
          have hx? : a.rs[j + 1]? = some (lo, hi) := by rw [List.getElem?_eq_getElem (by rw [hlen.out]; exact hlt), hx]
          obtain ⟨lo2, hi2, hx2⟩ : ∃ lo hi, a.rs[j]'(by rw [hlen.out]; omega) = (lo, hi) := ⟨_, _, rfl⟩
          have hx2? : a.rs[j]? = some (lo2, hi2) := by rw [List.getElem?_eq_getElem (by rw [hlen.out]; omega), hx2]
          obtain ⟨g0, g1⟩ := hcs (j + 1) (lo, hi) hx?
          obtain ⟨f0, _⟩ := hcs j (lo2, hi2) hx2?
          simp only at g0 g1 f0
          have o1 := (Frm.okR_iff _).1 (List.all_eq_true.1 hall.out _ (List.mem_of_getElem? hx?))
          have o2 := (Frm.okR_iff _).1 (List.all_eq_true.1 hall.out _ (List.mem_of_getElem? hx2?))
          simp only at o1 o2
          have w1 : IntKind.i64.wrap ((j : Int) + 1 - 1) = j := by rw [IntWalk.i64_in _ (by omega)]; omega
          have w2 : IntKind.i64.wrap (lo2 - hi) = lo2 - hi := IntWalk.i64_in _ (by omega)
          have w3 : IntKind.i64.wrap (lo2 - hi - 2) = lo2 - hi - 2 := IntWalk.i64_in _ (by omega)
          have w4 : IntKind.i64.wrap ((j : Int) + 1 + 1) = (j : Int) + 1 + 1 := IntWalk.i64_in _ (by omega)
          have w5 : IntKind.i64.wrap (hi - lo) = hi - lo := IntWalk.i64_in _ (by omega)
          have hbl2 : bl a (j + 1 + 1) = bl a (j + 1) ++ [lo2 - hi - 2, hi - lo] := by
            have e0 : gpk a.rs (j + 1) = (lo2 - hi - 2, (lo, hi)) := by unfold gpk; rw [hx?, if_neg (by omega), show j + 1 - 1 = j by omega, hx2?]; rfl
            rw [bl_succ a (j + 1) (by omega), e0, wdW_ok (x := (lo2 - hi - 2, (lo, hi))) (by rw [Frm.okR_iff]; exact o1)]
          have hbll := bl_len a (j + 1)
          have c1 := hb3.cell 1
          simp at c1
          have hlx := laterA (Below.refl wr.heap.size wr) (.cells #[.int .i64 lo, .int .i64 hi] 36)
          have hO4 := hO.later hlx
          have hb4 := hb3.later hlx
          have hr4 := hr3.later hlx
          have hl4 := old_later2 hl3 hlx hl3.size
          have hsz4 := Nat.le_trans hsz3 hlx.size
          have y2 := (hlx.cell (p := ⟨q, off + j * 2, none⟩) hq').trans f0
          obtain ⟨W4, hW4⟩ : ∃ W, wr.alloc (.cells #[.int .i64 lo, .int .i64 hi] 36) = W := ⟨_, rfl⟩
          have hxr := Blk.new wr 36 #[.int .i64 lo, .int .i64 hi]
          rw [hW4] at hO4 hb4 hr4 hl4 hsz4 y2 hxr
          have y0 := hxr.cell 0
          have y1 := hxr.cell 1
          have c2 := hb4.cell 1
          simp at y0 y1 c2
          have hlN := laterD_ (laterA (Below.refl W4.heap.size W4) (.cells #[.int .i64 (lo2 - hi - 2), .int .i64 (hi - lo)] 3))
          have hO5 : OI (W4.alloc (.cells #[.int .i64 (lo2 - hi - 2), .int .i64 (hi - lo)] 3)).drew W2.heap.size (.slice A3 n3 c3') (bl a (j + 1)) := hO4.later hlN
          have hbN := (Blk.new W4 3 #[.int .i64 (lo2 - hi - 2), .int .i64 (hi - lo)]).drew
          have hb5 := hb4.later hlN
          have hr5 := hr4.later hlN
          have hl5 := old_later2 hl4 hlN hl4.size
          have hsz5 := Nat.le_trans hsz4 hlN.size
          rw [hcast]
          have hS0 : W4.drew.cell? ⟨w.heap.size, 1, none⟩ = some (.slice (some ⟨q, off, none⟩) m c) ∧ W4.drew.cell? ⟨wr.heap.size, 1, none⟩ = some (.int .i64 hi) ∧ W4.drew.cell? ⟨wr.heap.size, 0, none⟩ = some (.int .i64 lo) ∧ W4.drew.cell? ⟨q, off + j * 2, none⟩ = some (.int .i64 lo2) := ⟨c2, y1, y0, y2⟩
          have hS1 : (W4.alloc (.cells #[.int .i64 (lo2 - hi - 2), .int .i64 (hi - lo)] 3)).drew.cell? ⟨w.heap.size, 1, none⟩ = some (.slice (some ⟨q, off, none⟩) m c) ∧ (W4.alloc (.cells #[.int .i64 (lo2 - hi - 2), .int .i64 (hi - lo)] 3)).drew.cell? ⟨wr.heap.size, 1, none⟩ = some (.int .i64 hi) ∧ (W4.alloc (.cells #[.int .i64 (lo2 - hi - 2), .int .i64 (hi - lo)] 3)).drew.cell? ⟨wr.heap.size, 0, none⟩ = some (.int .i64 lo) ∧ (W4.alloc (.cells #[.int .i64 (lo2 - hi - 2), .int .i64 (hi - lo)] 3)).drew.cell? ⟨q, off + j * 2, none⟩ = some (.int .i64 lo2) := ⟨(hlN.cell (p := ⟨w.heap.size, 1, none⟩) hb4.lt).trans c2, (hlN.cell (p := ⟨wr.heap.size, 1, none⟩) hxr.lt).trans y1, (hlN.cell (p := ⟨wr.heap.size, 0, none⟩) hxr.lt).trans y0, (hlN.cell (p := ⟨q, off + j * 2, none⟩) (block_lt_of_cell y2)).trans y2⟩
          have hxN : Blk (W4.alloc (.cells #[.int .i64 (lo2 - hi - 2), .int .i64 (hi - lo)] 3)).drew wr.heap.size 36 #[.int .i64 lo, .int .i64 hi] := hxr.later hlN
          clear hcs hO hl3 hb3 hr3 o1 o2 hx hx2 hx? hx2? hlx hO4 hb4 hr4 hl4 hlN hxr
          replace hbl2 := Lib.hid hbl2
          replace hS0 := Lib.hid hS0
          replace hS1 := Lib.hid hS1
          replace hxN := Lib.hid hxN
          replace hbll := Lib.hid hbll
          replace hsz3 := Lib.hid hsz3
          replace hsz4 := Lib.hid hsz4
          replace hO5 := Lib.hid hO5
          replace hbN := Lib.hid hbN
          replace hb5 := Lib.hid hb5
          replace hr5 := Lib.hid hr5
          replace hl5 := Lib.hid hl5
          replace hsz5 := Lib.hid hsz5
          go_wp2_with fail
          go_region_held3 (fun w' => w'.cell? ⟨w.heap.size, 1, none⟩ = some (.slice (some ⟨q, off, none⟩) m c) ∧ w'.cell? ⟨wr.heap.size, 1, none⟩ = some (.int .i64 hi) ∧ w'.cell? ⟨wr.heap.size, 0, none⟩ = some (.int .i64 lo) ∧ w'.cell? ⟨q, off + j * 2, none⟩ = some (.int .i64 lo2)) (first | with_reducible exact hS0.out | with_reducible exact hS1.out | with_reducible exact hS2.out | fail) (first | (refine step_ois (h := W4.heap.size) (k := 2) (ys := [lo2 - hi - 2, hi - lo]) (l := bl a (j + 1)) (B := W2.heap.size) rfl _ _ rfl rfl rfl hO5.out hbN.out rfl rfl (by have := hbll.out; omega) hsz5.out ?_; intro v' w' hO6 hg6; have hS2 : w'.cell? ⟨w.heap.size, 1, none⟩ = some (.slice (some ⟨q, off, none⟩) m c) ∧ w'.cell? ⟨wr.heap.size, 1, none⟩ = some (.int .i64 hi) ∧ w'.cell? ⟨wr.heap.size, 0, none⟩ = some (.int .i64 lo) ∧ w'.cell? ⟨q, off + j * 2, none⟩ = some (.int .i64 lo2) := ⟨by have := (hO5.out.row hg6 hb5.out (by decide)).cell 1; simpa using this, by have := (hO5.out.row hg6 hxN.out (by decide)).cell 1; simpa using this, by have := (hO5.out.row hg6 hxN.out (by decide)).cell 0; simpa using this, cell_only (Only.of_row hg6) (fun hf => by have := (World.ownsRow.lt hO5.out q hf).1; have := hqB.out; omega) hS1.out.2.2.2⟩; replace hS2 := Lib.hid hS2; replace hO6 := Lib.hid hO6; replace hg6 := Lib.hid hg6) | fail)
          have hb6 := hO5.out.row hg6.out hb5.out (by decide)
          have hl6 := hO5.out.row_low hg6.out hl5.out (Nat.le_of_lt hBB.out)
          have hr6 := hO5.out.row_rg hg6.out hr5.out (fun x hx => by injection hx with hx; subst hx; exact hqB.out)
          have hsz6 := Nat.le_trans hsz5.out hg6.out.size
          replace hO6 := hO6.out
          rw [← hbl2.out] at hO6
          obtain ⟨A6, n6, c6, rfl⟩ := hO6.slice
          rename_i hHeld
          clear hHeld
          replace hsz6 := Lib.hid hsz6
          replace hb6 := Lib.hid hb6
          replace hl6 := Lib.hid hl6
          replace hr6 := Lib.hid hr6
          replace hO6 := Lib.hid hO6
          go_wp2_with fail
          refine ⟨⟨j + 1 + 1, A6, n6, c6, rfl, by simp, by omega, by omega, hO6.out, hl6.out, hb6.out, hr6.out, hsz6.out⟩, ?_⟩
          simp only [intOf]
          omega
        · obtain rfl : m = k := by omega
          have hki : ¬ (m : Int) < (m : Int) := by omega
          have c1 := hb3.cell 1
          have c2 := hb3.cell 2
          have c3 := hb3.cell 3
          have c4 := hb3.cell 4
          have c5 := hb3.cell 5
          simp at c1 c2 c3 c4 c5

          have hO6 := hO
          have hl6 := hl3
          have hsz6 := hsz3
          clear hO hl3 hb3 hr3 hsz3
          rw [← List.append_nil (bl a m)] at hO6
          simp only [List.append_nil] at hO6

          obtain ⟨LL, hLL⟩ : ∃ LL, bl a m = LL := ⟨_, rfl⟩
          rw [hLL] at hO6
          have hL6 : putL [] LL = L := by rw [← hLL]; exact hL.out
          have hbm6 : LL.length ≤ 600 := by rw [← hLL]; exact hbm.out
          have hLp : 0 < LL.length := by rw [← hLL]; simp [bl]
          clear hLL hL hbm
          obtain ⟨g, cap, hv6, hcell6⟩ := hO6.cell hLp
          injection hv6 with hva hvb hvc
          subst hva hvb
          have hvc2 := hvc.symm
          subst hvc2
          obtain ⟨N, hN⟩ : ∃ N, LL.length = N := ⟨_, rfl⟩
          rw [hN] at hO6 hbm6 hLp ⊢
          replace hN := Lib.hid hN
          replace hcell6 := Lib.hid hcell6
          replace hL6 := Lib.hid hL6
          replace hsz6 := Lib.hid hsz6
          replace hO6 := Lib.hid hO6
          replace hl6 := Lib.hid hl6
          go_wp2_with fail
          go_loopw [9, 10] (fun ov iv wr => ∃ (k q' : Nat) (A' : Option Addr) (c' : Nat), ov = .slice A' (putL [] (LL.take k)).length c' ∧ iv = .int .i64 (k : Int) ∧ k ≤ N ∧ Sl wr q' A' (putL [] (LL.take k)).length c' (putL [] (LL.take k)) ∧ OI wr W2.heap.size (.slice (some ⟨g, 0, none⟩) N cap) LL ∧ Below w.heap.size w wr) (fun _ iv _ => N - (intOf iv).toNat)
          case atStart => exact ⟨0, 0, none, 0, rfl, rfl, Nat.zero_le _, ⟨rfl, Nat.zero_le _, by simp [maxLen], .inl ⟨rfl, rfl, rfl⟩⟩, hO6.out, hl6.out⟩
          case round =>
            obtain ⟨k, q', A', c', rfl, rfl, hkN, hS, hOI3, hlow7⟩ := hrel
            by_cases hkn : k < N
            · have hki : (k : Int) < (N : Int) := by omega
              have hwk : IntKind.i64.wrap ((k : Int) + 1) = (k : Int) + 1 := IntWalk.i64_in _ (by omega)
              obtain ⟨x, hx⟩ : ∃ x, LL[k]? = some x := ⟨_, List.getElem?_eq_getElem (by rw [hN.out]; exact hkn)⟩
              obtain ⟨g', cap', he, hcell⟩ := hOI3.cell (by rw [hN.out]; exact hLp)
              injection he with he1 he2 he3
              injection he1 with he1
              injection he1 with he1 _ _
              subst he1
              have y0 := hcell k x hx
              have hpl := putL_len (LL.take k) []
              rw [List.length_take, hN.out] at hpl
              simp only [List.length_nil] at hpl
              have hsn : putL [] (LL.take (k + 1)) = (Oct.put (putL [] (LL.take k)) x).1 := by
                rw [List.take_add_one, hx, putL_append]
                rfl
              have hP := rput_any A' (putL [] (LL.take k)).length c' (putL [] (LL.take k)) x wr hS.rb (by omega)
              obtain ⟨PL, hPL⟩ : ∃ PL, Oct.put (putL [] (LL.take k)) x = PL := ⟨_, rfl⟩
              rw [hPL] at hP hsn
              obtain ⟨pl, pe⟩ := PL
              simp only at hP hsn
              clear hPL hcell he2 he3 hS hpl
              replace hsn := Lib.hid hsn
              replace hx := Lib.hid hx
              replace hOI3 := Lib.hid hOI3
              replace hlow7 := Lib.hid hlow7
              go_wp2_with fail
              with_reducible refine hP.mono ?_
              clear hP
              rintro e w8 ⟨v8, rfl, hob, hb⟩
              have hOI4 := hOI3.out.later hb
              have hlow8 := old_later2 hlow7.out hb hlow7.out.size
              obtain ⟨q8, A8, c8, rfl, _, hs8, _⟩ := hob.open_
              rw [← hsn.out] at hs8 ⊢
              clear hob hb y0
              replace hOI4 := Lib.hid hOI4
              replace hlow8 := Lib.hid hlow8
              replace hs8 := Lib.hid hs8
              go_wp2_with fail
              refine ⟨⟨k + 1, q8, A8, c8, rfl, by simp, by omega, hs8.out, hOI4.out, hlow8.out⟩, ?_⟩
              simp only [intOf]
              omega
            · obtain rfl : N = k := by omega
              have hki : ¬ (N : Int) < (N : Int) := by omega
              rw [List.take_of_length_le (by rw [hN.out]; exact Nat.le_refl _), hL6.out] at hS ⊢
              replace hS := Lib.hid hS
              replace hlow7 := Lib.hid hlow7
              replace hOI3 := Lib.hid hOI3
              go_wp2_with fail
              refine bodyPost_ret (results_tmp2 rfl _ _) rfl ?_
              exact ⟨q', A', c', rfl, hS.out, hlow7.out⟩
    | true =>
      rw [hmk] at hbl1 p2 hL hbm hC hW hbx
      simp only [↓reduceIte] at hbl1 hL hbm
      replace hbx := Lib.hid hbx
      replace hlow := Lib.hid hlow
      replace hcs := Lib.hid hcs
      replace hx0 := Lib.hid hx0
      replace hok0 := Lib.hid hok0
      replace hbl1 := Lib.hid hbl1
      replace hL := Lib.hid hL
      replace hbm := Lib.hid hbm
      replace hall := Lib.hid hall
      replace hr2 := Lib.hid hr2
      replace hlen := Lib.hid hlen
      replace hmk := Lib.hid hmk
      go_enter Tryd.func14, Tryd.ntmps14
      go_wp2_with fail
      with_reducible refine hC.mono ?_
      clear hC p0 p1 p2 p3 p4 p5
      rintro e w1 ⟨rfl, hb⟩
      have hr3 := hr2.out.later hb
      have hbx3 := hbx.out.later hb
      have hlow3 := old_later2 hlow.out hb hlow.out.size
      have g0 := (hb.cell (p := ⟨q, off + 0 * 2, none⟩) hq).trans (hcs.out 0 _ hx0.out).1
      have g1 := (hb.cell (p := ⟨q, off + 0 * 2 + 1, none⟩) hq).trans (hcs.out 0 _ hx0.out).2
      have p0 := hbx3.cell 0
      have p1 := hbx3.cell 1
      have p2 := hbx3.cell 2
      simp at p0 p1 p2
      simp only [Nat.zero_mul, Nat.add_zero] at g0 g1
      have hl2 := laterA (Below.refl w1.heap.size w1) (.cells #[.int .i64 lo0, .int .i64 hi0] 36)
      have hr4 := hr3.later hl2
      have hbx4 := hbx3.later hl2
      have hlow4 := old_later2 hlow3 hl2 hlow3.size
      obtain ⟨W2, hW2⟩ : ∃ W, w1.alloc (.cells #[.int .i64 lo0, .int .i64 hi0] 36) = W := ⟨_, rfl⟩
      have hxr := Blk.new w1 36 #[.int .i64 lo0, .int .i64 hi0]
      rw [hW2] at hr4 hbx4 hlow4 hxr hl2
      have x0 := hxr.cell 0
      have x1 := hxr.cell 1
      have r0 := hbx4.cell 0
      have r1 := hbx4.cell 1
      simp at x0 x1 r0 r1
      have hl3 := laterA (Below.refl W2.heap.size W2) (.cells #[.int .i64 3, .int .i64 hi0, .int .i64 a.d, .int .i64 ((m : Int) - 1), .int .i64 (hi0 - lo0)] 3)
      have hr5 := hr4.later hl3
      have hbx5 := hbx4.later hl3
      have hlow5 := old_later2 hlow4 hl3 hlow4.size
      have hOI := oi_blk (B := W2.heap.size) (ys := [3, hi0, a.d, (m : Int) - 1, hi0 - lo0]) (Blk.new W2 3 #[.int .i64 3, .int .i64 hi0, .int .i64 a.d, .int .i64 ((m : Int) - 1), .int .i64 (hi0 - lo0)]) rfl (k := 5) rfl (Nat.le_refl _) (by omega)
      rw [← hbl1.out] at hOI
      have hqB : q < W2.heap.size := Nat.lt_of_lt_of_le hq (Nat.le_trans hb.size hl2.size)
      have hBB : w.heap.size < W2.heap.size := hbx4.lt
      have hbx6 := hbx4.later (laterA (Below.refl W2.heap.size W2) (.cells #[.int .i64 2, .int .i64 hi0, .int .i64 a.d, .int .i64 ((m : Int) - 1), .int .i64 (hi0 - lo0)] 3))
      have s2 := hbx6.cell 2
      simp at s2
      clear hbx6
      clear hb hcs hx0 hl2 hl3
      replace hqB := Lib.hid hqB
      replace hBB := Lib.hid hBB
      replace hr3 := Lib.hid hr3
      replace hbx3 := Lib.hid hbx3
      replace hlow3 := Lib.hid hlow3
      replace hr4 := Lib.hid hr4
      replace hbx4 := Lib.hid hbx4
      replace hlow4 := Lib.hid hlow4
      replace hr5 := Lib.hid hr5
      replace hbx5 := Lib.hid hbx5
      replace hlow5 := Lib.hid hlow5
      replace hOI := Lib.hid hOI
      replace hxr := Lib.hid hxr
      go_wp2_with fail

      go_loopw [6, 7] (fun lv iv wr => ∃ (k : Nat) (A3 : Option Addr) (n3 c3 : Nat), lv = .slice A3 n3 c3 ∧ iv = .int .i64 (k : Int) ∧ 1 ≤ k ∧ k ≤ m ∧ OI wr W2.heap.size (.slice A3 n3 c3) (bl a k) ∧ Below w.heap.size w wr ∧ Blk wr w.heap.size 25 #[.int .i64 a.d, .slice (some ⟨q, off, none⟩) m c, .bool true, .int .i64 a.e0, .int .i64 a.e1, .int .i64 a.e2] ∧ Rg wr (some ⟨q, off, none⟩) m c a.rs ∧ W2.heap.size ≤ wr.heap.size) (fun _ iv _ => m - (intOf iv).toNat)
      case atStart => exact ⟨1, _, _, _, rfl, rfl, Nat.le_refl _, hm1, hOI.out, hlow5.out, hbx5.out, hr5.out, by simp⟩
      case round =>
        obtain ⟨k, A3, n3, c3', rfl, rfl, hk1, hkm, hO, hl3, hb3, hr3, hsz3⟩ := hrel
        by_cases hlt : k < m
        · obtain ⟨j, rfl⟩ : ∃ j, k = j + 1 := ⟨k - 1, by omega⟩
          have hcast : ((j + 1 : Nat) : Int) = (j : Int) + 1 := by omega
          have hki : (j : Int) + 1 < (m : Int) := by omega
          have hjm2 : (j : Int) < (m : Int) := by omega
          have hjm : j < m := by omega
          have hj0 : (0 : Int) ≤ (j : Int) := by omega
          have wj : IntKind.i64.wrap (j : Int) = j := IntWalk.i64_in _ (by omega)
          obtain ⟨q', off', he, hq', hcs⟩ := hr3.at hm1
          injection he with he
          injection he with he1 he2 _
          subst he1 he2
          obtain ⟨lo, hi, hx⟩ : ∃ lo hi, a.rs[j + 1]'(by rw [hlen.out]; exact hlt) = (lo, hi) := ⟨_, _, rfl⟩
          have hx? : a.rs[j + 1]? = some (lo, hi) := by rw [List.getElem?_eq_getElem (by rw [hlen.out]; exact hlt), hx]
          obtain ⟨lo2, hi2, hx2⟩ : ∃ lo hi, a.rs[j]'(by rw [hlen.out]; omega) = (lo, hi) := ⟨_, _, rfl⟩
          have hx2? : a.rs[j]? = some (lo2, hi2) := by rw [List.getElem?_eq_getElem (by rw [hlen.out]; omega), hx2]
          obtain ⟨g0, g1⟩ := hcs (j + 1) (lo, hi) hx?
          obtain ⟨f0, _⟩ := hcs j (lo2, hi2) hx2?
          simp only at g0 g1 f0
          have o1 := (Frm.okR_iff _).1 (List.all_eq_true.1 hall.out _ (List.mem_of_getElem? hx?))
          have o2 := (Frm.okR_iff _).1 (List.all_eq_true.1 hall.out _ (List.mem_of_getElem? hx2?))
          simp only at o1 o2
          have w1 : IntKind.i64.wrap ((j : Int) + 1 - 1) = j := by rw [IntWalk.i64_in _ (by omega)]; omega
          have w2 : IntKind.i64.wrap (lo2 - hi) = lo2 - hi := IntWalk.i64_in _ (by omega)
          have w3 : IntKind.i64.wrap (lo2 - hi - 2) = lo2 - hi - 2 := IntWalk.i64_in _ (by omega)
          have w4 : IntKind.i64.wrap ((j : Int) + 1 + 1) = (j : Int) + 1 + 1 := IntWalk.i64_in _ (by omega)
          have w5 : IntKind.i64.wrap (hi - lo) = hi - lo := IntWalk.i64_in _ (by omega)
          have hbl2 : bl a (j + 1 + 1) = bl a (j + 1) ++ [lo2 - hi - 2, hi - lo] := by
            have e0 : gpk a.rs (j + 1) = (lo2 - hi - 2, (lo, hi)) := by unfold gpk; rw [hx?, if_neg (by omega), show j + 1 - 1 = j by omega, hx2?]; rfl
            rw [bl_succ a (j + 1) (by omega), e0, wdW_ok (x := (lo2 - hi - 2, (lo, hi))) (by rw [Frm.okR_iff]; exact o1)]
          have hbll := bl_len a (j + 1)
          have c1 := hb3.cell 1
          simp at c1
          have hlx := laterA (Below.refl wr.heap.size wr) (.cells #[.int .i64 lo, .int .i64 hi] 36)
          have hO4 := hO.later hlx
          have hb4 := hb3.later hlx
          have hr4 := hr3.later hlx
          have hl4 := old_later2 hl3 hlx hl3.size
          have hsz4 := Nat.le_trans hsz3 hlx.size
          have y2 := (hlx.cell (p := ⟨q, off + j * 2, none⟩) hq').trans f0
          obtain ⟨W4, hW4⟩ : ∃ W, wr.alloc (.cells #[.int .i64 lo, .int .i64 hi] 36) = W := ⟨_, rfl⟩
          have hxr := Blk.new wr 36 #[.int .i64 lo, .int .i64 hi]
          rw [hW4] at hO4 hb4 hr4 hl4 hsz4 y2 hxr
          have y0 := hxr.cell 0
          have y1 := hxr.cell 1
          have c2 := hb4.cell 1
          simp at y0 y1 c2
          have hlN := laterD_ (laterA (Below.refl W4.heap.size W4) (.cells #[.int .i64 (lo2 - hi - 2), .int .i64 (hi - lo)] 3))
          have hO5 : OI (W4.alloc (.cells #[.int .i64 (lo2 - hi - 2), .int .i64 (hi - lo)] 3)).drew W2.heap.size (.slice A3 n3 c3') (bl a (j + 1)) := hO4.later hlN
          have hbN := (Blk.new W4 3 #[.int .i64 (lo2 - hi - 2), .int .i64 (hi - lo)]).drew
          have hb5 := hb4.later hlN
          have hr5 := hr4.later hlN
          have hl5 := old_later2 hl4 hlN hl4.size
          have hsz5 := Nat.le_trans hsz4 hlN.size
          rw [hcast]
          have hS0 : W4.drew.cell? ⟨w.heap.size, 1, none⟩ = some (.slice (some ⟨q, off, none⟩) m c) ∧ W4.drew.cell? ⟨wr.heap.size, 1, none⟩ = some (.int .i64 hi) ∧ W4.drew.cell? ⟨wr.heap.size, 0, none⟩ = some (.int .i64 lo) ∧ W4.drew.cell? ⟨q, off + j * 2, none⟩ = some (.int .i64 lo2) := ⟨c2, y1, y0, y2⟩
          have hS1 : (W4.alloc (.cells #[.int .i64 (lo2 - hi - 2), .int .i64 (hi - lo)] 3)).drew.cell? ⟨w.heap.size, 1, none⟩ = some (.slice (some ⟨q, off, none⟩) m c) ∧ (W4.alloc (.cells #[.int .i64 (lo2 - hi - 2), .int .i64 (hi - lo)] 3)).drew.cell? ⟨wr.heap.size, 1, none⟩ = some (.int .i64 hi) ∧ (W4.alloc (.cells #[.int .i64 (lo2 - hi - 2), .int .i64 (hi - lo)] 3)).drew.cell? ⟨wr.heap.size, 0, none⟩ = some (.int .i64 lo) ∧ (W4.alloc (.cells #[.int .i64 (lo2 - hi - 2), .int .i64 (hi - lo)] 3)).drew.cell? ⟨q, off + j * 2, none⟩ = some (.int .i64 lo2) := ⟨(hlN.cell (p := ⟨w.heap.size, 1, none⟩) hb4.lt).trans c2, (hlN.cell (p := ⟨wr.heap.size, 1, none⟩) hxr.lt).trans y1, (hlN.cell (p := ⟨wr.heap.size, 0, none⟩) hxr.lt).trans y0, (hlN.cell (p := ⟨q, off + j * 2, none⟩) (block_lt_of_cell y2)).trans y2⟩
          have hxN : Blk (W4.alloc (.cells #[.int .i64 (lo2 - hi - 2), .int .i64 (hi - lo)] 3)).drew wr.heap.size 36 #[.int .i64 lo, .int .i64 hi] := hxr.later hlN
          clear hcs hO hl3 hb3 hr3 o1 o2 hx hx2 hx? hx2? hlx hO4 hb4 hr4 hl4 hlN hxr
          replace hbl2 := Lib.hid hbl2
          replace hS0 := Lib.hid hS0
          replace hS1 := Lib.hid hS1
          replace hxN := Lib.hid hxN
          replace hbll := Lib.hid hbll
          replace hsz3 := Lib.hid hsz3
          replace hsz4 := Lib.hid hsz4
          replace hO5 := Lib.hid hO5
          replace hbN := Lib.hid hbN
          replace hb5 := Lib.hid hb5
          replace hr5 := Lib.hid hr5
          replace hl5 := Lib.hid hl5
          replace hsz5 := Lib.hid hsz5
          go_wp2_with fail
          go_region_held3 (fun w' => w'.cell? ⟨w.heap.size, 1, none⟩ = some (.slice (some ⟨q, off, none⟩) m c) ∧ w'.cell? ⟨wr.heap.size, 1, none⟩ = some (.int .i64 hi) ∧ w'.cell? ⟨wr.heap.size, 0, none⟩ = some (.int .i64 lo) ∧ w'.cell? ⟨q, off + j * 2, none⟩ = some (.int .i64 lo2)) (first | with_reducible exact hS0.out | with_reducible exact hS1.out | with_reducible exact hS2.out | fail) (first | (refine step_ois (h := W4.heap.size) (k := 2) (ys := [lo2 - hi - 2, hi - lo]) (l := bl a (j + 1)) (B := W2.heap.size) rfl _ _ rfl rfl rfl hO5.out hbN.out rfl rfl (by have := hbll.out; omega) hsz5.out ?_; intro v' w' hO6 hg6; have hS2 : w'.cell? ⟨w.heap.size, 1, none⟩ = some (.slice (some ⟨q, off, none⟩) m c) ∧ w'.cell? ⟨wr.heap.size, 1, none⟩ = some (.int .i64 hi) ∧ w'.cell? ⟨wr.heap.size, 0, none⟩ = some (.int .i64 lo) ∧ w'.cell? ⟨q, off + j * 2, none⟩ = some (.int .i64 lo2) := ⟨by have := (hO5.out.row hg6 hb5.out (by decide)).cell 1; simpa using this, by have := (hO5.out.row hg6 hxN.out (by decide)).cell 1; simpa using this, by have := (hO5.out.row hg6 hxN.out (by decide)).cell 0; simpa using this, cell_only (Only.of_row hg6) (fun hf => by have := (World.ownsRow.lt hO5.out q hf).1; have := hqB.out; omega) hS1.out.2.2.2⟩; replace hS2 := Lib.hid hS2; replace hO6 := Lib.hid hO6; replace hg6 := Lib.hid hg6) | fail)
          have hb6 := hO5.out.row hg6.out hb5.out (by decide)
          have hl6 := hO5.out.row_low hg6.out hl5.out (Nat.le_of_lt hBB.out)
          have hr6 := hO5.out.row_rg hg6.out hr5.out (fun x hx => by injection hx with hx; subst hx; exact hqB.out)
          have hsz6 := Nat.le_trans hsz5.out hg6.out.size
          replace hO6 := hO6.out
          rw [← hbl2.out] at hO6
          obtain ⟨A6, n6, c6, rfl⟩ := hO6.slice
          rename_i hHeld
          clear hHeld
          replace hsz6 := Lib.hid hsz6
          replace hb6 := Lib.hid hb6
          replace hl6 := Lib.hid hl6
          replace hr6 := Lib.hid hr6
          replace hO6 := Lib.hid hO6
          go_wp2_with fail
          refine ⟨⟨j + 1 + 1, A6, n6, c6, rfl, by simp, by omega, by omega, hO6.out, hl6.out, hb6.out, hr6.out, hsz6.out⟩, ?_⟩
          simp only [intOf]
          omega
        · obtain rfl : m = k := by omega
          have hki : ¬ (m : Int) < (m : Int) := by omega
          have c1 := hb3.cell 1
          have c2 := hb3.cell 2
          have c3 := hb3.cell 3
          have c4 := hb3.cell 4
          have c5 := hb3.cell 5
          simp at c1 c2 c3 c4 c5

          have hlN := laterA (Below.refl wr.heap.size wr) (.cells #[.int .i64 a.e0, .int .i64 a.e1, .int .i64 a.e2] 3)
          have hO5 := hO.later hlN
          have hbN := Blk.new wr 3 #[.int .i64 a.e0, .int .i64 a.e1, .int .i64 a.e2]
          have hl5 := old_later2 hl3 hlN hl3.size
          have hsz5 := Nat.le_trans hsz3 hlN.size
          have hbll := bl_len a m
          clear hO hl3 hb3 hr3 hlN
          replace hsz3 := Lib.hid hsz3
          replace hsz5 := Lib.hid hsz5
          replace hbll := Lib.hid hbll
          replace hO5 := Lib.hid hO5
          replace hbN := Lib.hid hbN
          replace hl5 := Lib.hid hl5
          go_wp2_with (at_builtin; refine wpList_ois (h := wr.heap.size) (k := 3) (ys := [a.e0, a.e1, a.e2]) (l := bl a m) (B := W2.heap.size) rfl _ _ rfl rfl rfl hO5.out hbN.out rfl rfl (by have := hbll.out; omega) hsz5.out ?_)
          intro v6 w6 hO6 hg6
          have hl6 := hO5.out.row_low hg6 hl5.out (Nat.le_of_lt hBB.out)
          have hsz6 := Nat.le_trans hsz5.out hg6.size
          clear hO5 hbN hl5 hg6 c1 c2 c3 c4 c5

          obtain ⟨LL, hLL⟩ : ∃ LL, bl a m ++ [a.e0, a.e1, a.e2] = LL := ⟨_, rfl⟩
          rw [hLL] at hO6
          have hL6 : putL [] LL = L := by rw [← hLL]; exact hL.out
          have hbm6 : LL.length ≤ 600 := by rw [← hLL]; exact hbm.out
          have hLp : 0 < LL.length := by rw [← hLL]; simp [bl]
          clear hLL hL hbm
          obtain ⟨g, cap, hv6, hcell6⟩ := hO6.cell hLp
          subst hv6
          obtain ⟨N, hN⟩ : ∃ N, LL.length = N := ⟨_, rfl⟩
          rw [hN] at hO6 hbm6 hLp ⊢
          replace hN := Lib.hid hN
          replace hcell6 := Lib.hid hcell6
          replace hL6 := Lib.hid hL6
          replace hsz6 := Lib.hid hsz6
          replace hO6 := Lib.hid hO6
          replace hl6 := Lib.hid hl6
          go_wp2_with fail
          go_loopw [9, 10] (fun ov iv wr => ∃ (k q' : Nat) (A' : Option Addr) (c' : Nat), ov = .slice A' (putL [] (LL.take k)).length c' ∧ iv = .int .i64 (k : Int) ∧ k ≤ N ∧ Sl wr q' A' (putL [] (LL.take k)).length c' (putL [] (LL.take k)) ∧ OI wr W2.heap.size (.slice (some ⟨g, 0, none⟩) N cap) LL ∧ Below w.heap.size w wr) (fun _ iv _ => N - (intOf iv).toNat)
          case atStart => exact ⟨0, 0, none, 0, rfl, rfl, Nat.zero_le _, ⟨rfl, Nat.zero_le _, by simp [maxLen], .inl ⟨rfl, rfl, rfl⟩⟩, hO6.out, hl6.out⟩
          case round =>
            obtain ⟨k, q', A', c', rfl, rfl, hkN, hS, hOI3, hlow7⟩ := hrel
            by_cases hkn : k < N
            · have hki : (k : Int) < (N : Int) := by omega
              have hwk : IntKind.i64.wrap ((k : Int) + 1) = (k : Int) + 1 := IntWalk.i64_in _ (by omega)
              obtain ⟨x, hx⟩ : ∃ x, LL[k]? = some x := ⟨_, List.getElem?_eq_getElem (by rw [hN.out]; exact hkn)⟩
              obtain ⟨g', cap', he, hcell⟩ := hOI3.cell (by rw [hN.out]; exact hLp)
              injection he with he1 he2 he3
              injection he1 with he1
              injection he1 with he1 _ _
              subst he1
              have y0 := hcell k x hx
              have hpl := putL_len (LL.take k) []
              rw [List.length_take, hN.out] at hpl
              simp only [List.length_nil] at hpl
              have hsn : putL [] (LL.take (k + 1)) = (Oct.put (putL [] (LL.take k)) x).1 := by
                rw [List.take_add_one, hx, putL_append]
                rfl
              have hP := rput_any A' (putL [] (LL.take k)).length c' (putL [] (LL.take k)) x wr hS.rb (by omega)
              obtain ⟨PL, hPL⟩ : ∃ PL, Oct.put (putL [] (LL.take k)) x = PL := ⟨_, rfl⟩
              rw [hPL] at hP hsn
              obtain ⟨pl, pe⟩ := PL
              simp only at hP hsn
              clear hPL hcell he2 he3 hS hpl
              replace hsn := Lib.hid hsn
              replace hx := Lib.hid hx
              replace hOI3 := Lib.hid hOI3
              replace hlow7 := Lib.hid hlow7
              go_wp2_with fail
              with_reducible refine hP.mono ?_
              clear hP
              rintro e w8 ⟨v8, rfl, hob, hb⟩
              have hOI4 := hOI3.out.later hb
              have hlow8 := old_later2 hlow7.out hb hlow7.out.size
              obtain ⟨q8, A8, c8, rfl, _, hs8, _⟩ := hob.open_
              rw [← hsn.out] at hs8 ⊢
              clear hob hb y0
              replace hOI4 := Lib.hid hOI4
              replace hlow8 := Lib.hid hlow8
              replace hs8 := Lib.hid hs8
              go_wp2_with fail
              refine ⟨⟨k + 1, q8, A8, c8, rfl, by simp, by omega, hs8.out, hOI4.out, hlow8.out⟩, ?_⟩
              simp only [intOf]
              omega
            · obtain rfl : N = k := by omega
              have hki : ¬ (N : Int) < (N : Int) := by omega
              rw [List.take_of_length_le (by rw [hN.out]; exact Nat.le_refl _), hL6.out] at hS ⊢
              replace hS := Lib.hid hS
              replace hlow7 := Lib.hid hlow7
              replace hOI3 := Lib.hid hOI3
              go_wp2_with fail
              refine bodyPost_ret (results_tmp2 rfl _ _) rfl ?_
              exact ⟨q', A', c', rfl, hS.out, hlow7.out⟩
end Go.Proofs.YtpagdcobhbkabaaDoor
