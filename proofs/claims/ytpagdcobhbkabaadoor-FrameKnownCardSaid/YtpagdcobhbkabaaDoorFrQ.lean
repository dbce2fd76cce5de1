/-
  Layer 5: the program's Bytes.
-/
import Derived.RangeFuncNested
import Derived.Test.YtpagdcobhbkabaaDoorFrP
namespace Go.Proofs.YtpagdcobhbkabaaDoor
open Go.RowKit Go.Sort Go.Shelf Go.Deep Go.WideShapes

attribute [local go_sem] Oper.semAt_some

theorem results_tmp2 {fn : Func} {u v : Tmp} (h : fn.results = #[.tmp u, .tmp v]) (tmps : Array Value) (w : World) : (results fn tmps).run Tryd.prog w = .ok (.tuple #[tmps.getD u undef, tmps.getD v undef]) w := by
  simp [results, h]
theorem one_sl {W : World} {G : Nat} {b : Int} (h : Blk W G 5 #[.int .u8 b]) : Sl W G (some ⟨G, 0, none⟩) 1 1 [b] :=
  ⟨rfl, Nat.le_refl _, by unfold maxLen; omega, .inr ⟨0, rfl, h.lt, fun k hk => by
    have hk0 : k = 0 := by simpa using hk
    subst hk0
    have := h.cell 0
    simpa using this⟩⟩
theorem Os.later {w w' : World} {Bo : Nat} {v : Value} {l : List Int} (h : Os w Bo v l) (hb : Below w.heap.size w w') : Os w' Bo v l := by
  obtain ⟨g, A, c, e, h1, h2⟩ := h
  exact ⟨g, A, c, e, h1.later hb, h2⟩
theorem three_at {W : World} {G : Nat} {x y z : Int} {t : TypeId} (h : Blk W G t #[.int .i64 x, .int .i64 y, .int .i64 z]) : ∀ k (hk : k < [x, y, z].length), W.cell? ⟨G, 0 + k, none⟩ = some (.int .i64 [x, y, z][k]) := by
  intro k hk
  have hk3 : k = 0 ∨ k = 1 ∨ k = 2 := by simp at hk; omega
  have h0 := h.cell 0
  have h1 := h.cell 1
  have h2 := h.cell 2
  simp at h0 h1 h2
  rcases hk3 with rfl | rfl | rfl
  · simpa using h0
  · simpa using h1
  · simpa using h2
theorem one_at {W : World} {G : Nat} {x : Int} {t : TypeId} (h : Blk W G t #[.int .i64 x]) : ∀ k (hk : k < [x].length), W.cell? ⟨G, 0 + k, none⟩ = some (.int .i64 [x][k]) := by
  intro k hk
  have hk0 : k = 0 := by simpa using hk
  subst hk0
  have := h.cell 0
  simpa using this
theorem cell_al {w : World} {p : Addr} {v : Value} (h : w.cell? p = some v) (o : Obj) : (w.alloc o).cell? p = some v := ((laterA (Below.refl w.heap.size w) o).cell (block_lt_of_cell h)).trans h
theorem cell_only {F : Nat → Prop} {w w' : World} {p : Addr} {v : Value} (ho : Only F w w') (hn : ¬ F p.block) (h : w.cell? p = some v) : w'.cell? p = some v := (World.cell?_of_block (ho.block p.block (block_lt_of_cell h) hn)).trans h
def AtB (Bf B1 : Nat) (g : Int) (Bx : Nat) (a : Act) : Prop := ∃ f : Nat → Value, a = { tmps := #[f 0, f 1, f 2, f 3, f 4, f 5, .pointer (some ⟨Bf, 0, none⟩), .pointer (some ⟨B1, 0, none⟩), .int .i64 g, .pointer (some ⟨Bx, 0, none⟩), f 10, f 11, f 12, f 13, f 14, f 15, f 16, f 17, f 18, f 19, f 20, f 21, f 22, f 23, f 24, f 25, f 26, f 27, f 28, f 29, f 30, f 31, f 32, f 33, f 34, f 35, f 36, f 37, f 38, f 39, f 40, f 41, f 42, f 43, f 44, f 45, f 46, f 47, f 48, f 49, f 50, f 51, f 52, f 53, f 54, f 55, f 56, f 57, f 58, f 59], defers := [] }
theorem atB_mk {Bf B1 Bx : Nat} {g : Int} {a : Act} (h : a = { tmps := #[a.tmps.getD 0 undef, a.tmps.getD 1 undef, a.tmps.getD 2 undef, a.tmps.getD 3 undef, a.tmps.getD 4 undef, a.tmps.getD 5 undef, .pointer (some ⟨Bf, 0, none⟩), .pointer (some ⟨B1, 0, none⟩), .int .i64 g, .pointer (some ⟨Bx, 0, none⟩), a.tmps.getD 10 undef, a.tmps.getD 11 undef, a.tmps.getD 12 undef, a.tmps.getD 13 undef, a.tmps.getD 14 undef, a.tmps.getD 15 undef, a.tmps.getD 16 undef, a.tmps.getD 17 undef, a.tmps.getD 18 undef, a.tmps.getD 19 undef, a.tmps.getD 20 undef, a.tmps.getD 21 undef, a.tmps.getD 22 undef, a.tmps.getD 23 undef, a.tmps.getD 24 undef, a.tmps.getD 25 undef, a.tmps.getD 26 undef, a.tmps.getD 27 undef, a.tmps.getD 28 undef, a.tmps.getD 29 undef, a.tmps.getD 30 undef, a.tmps.getD 31 undef, a.tmps.getD 32 undef, a.tmps.getD 33 undef, a.tmps.getD 34 undef, a.tmps.getD 35 undef, a.tmps.getD 36 undef, a.tmps.getD 37 undef, a.tmps.getD 38 undef, a.tmps.getD 39 undef, a.tmps.getD 40 undef, a.tmps.getD 41 undef, a.tmps.getD 42 undef, a.tmps.getD 43 undef, a.tmps.getD 44 undef, a.tmps.getD 45 undef, a.tmps.getD 46 undef, a.tmps.getD 47 undef, a.tmps.getD 48 undef, a.tmps.getD 49 undef, a.tmps.getD 50 undef, a.tmps.getD 51 undef, a.tmps.getD 52 undef, a.tmps.getD 53 undef, a.tmps.getD 54 undef, a.tmps.getD 55 undef, a.tmps.getD 56 undef, a.tmps.getD 57 undef, a.tmps.getD 58 undef, a.tmps.getD 59 undef], defers := [] }) : AtB Bf B1 g Bx a := ⟨fun i => a.tmps.getD i undef, h⟩
theorem blk_own {W W' : World} {row : Option Nat} {g : Nat} {t : TypeId} {cs : Array Value} (h : Blk W g t cs) (hg : W.grownBy W' row) (hr : ∀ r, row = some r → ∃ o : Obj, W.heap[r]? = some o ∧ o.isCells = false) : Blk W' g t cs :=
  (hg.block g h.lt (fun e => by obtain ⟨o, ho, hc⟩ := hr g e.symm; rw [show W.heap[g]? = _ from h] at ho; cases ho; cases hc)).trans h
theorem sl_own {W W' : World} {row : Option Nat} {q n c : Nat} {A : Option Addr} {l : List Int} (h : Sl W q A n c l) (hg : W.grownBy W' row) (hr : ∀ r, row = some r → ∃ o : Obj, W.heap[r]? = some o ∧ o.isCells = false) : Sl W' q A n c l := by
  obtain ⟨h1, h2, h3, h4 | ⟨off, rfl, hq, h5⟩⟩ := h
  · exact ⟨h1, h2, h3, .inl h4⟩
  · exact ⟨h1, h2, h3, .inr ⟨off, rfl, Nat.lt_of_lt_of_le hq hg.size, fun k hk => cell_kept (h5 k hk) hg hr⟩⟩
theorem os_own {W W' : World} {row : Option Nat} {Bo : Nat} {v : Value} {l : List Int} (h : Os W Bo v l) (hg : W.grownBy W' row) (hr : ∀ r, row = some r → ∃ o : Obj, W.heap[r]? = some o ∧ o.isCells = false) : Os W' Bo v l := by
  obtain ⟨g, A, c, e, h1, h2⟩ := h
  exact ⟨g, A, c, e, sl_own h1 hg hr, h2⟩
theorem only_own {F : Nat → Prop} {w0 W W' : World} {row : Option Nat} (h : Only F w0 W) (hg : W.grownBy W' row) (hr : ∀ r, row = some r → w0.heap.size ≤ r) : Only F w0 W' :=
  ⟨hg.os.trans h.os, hg.tape.trans h.tape, hg.output.trans h.output, Nat.le_trans h.size hg.size, fun k hk hn => (hg.block k (Nat.lt_of_lt_of_le hk h.size) (fun e => by have := hr k e.symm; omega)).trans (h.block k hk hn)⟩
theorem keeps_only {F : Nat → Prop} {B : Nat} {W W' : World} (h : Only F W W') (hF : ∀ k, F k → k < B) : KeepsFrom B W W' :=
  ⟨h.size, fun k o hB hk _ => (h.block k (Array.getElem?_eq_some_iff.1 hk).1 (fun hf => by have := hF k hf; omega)).trans hk⟩
theorem kg_only {F : Nat → Prop} {Bx q off : Nat} {W W' : World} (h : Only F W W') (hx : ¬ F Bx) (hxl : Bx < W.heap.size) (hq : ¬ F q) (hql : q < W.heap.size) : Kg Bx (some ⟨q, off, none⟩) W W' :=
  ⟨h.size, h.block Bx hxl hx, fun a ha => by injection ha with ha; subst ha; exact h.block q hql hq⟩
theorem os_only1 {W W' : World} {Bo g1 : Nat} {u v : Value} {l : List Int} (h : Os W Bo v l) (h1 : Blk W g1 4 #[u]) (ho : Only (· = g1) W W') (hu : ∀ x, u ≠ .int .u8 x := by intro x hx; cases hx) : Os W' Bo v l := by
  obtain ⟨g, A, c, e, ⟨h2, h3, h4, h5 | ⟨off, rfl, hq, h6⟩⟩, hg⟩ := h
  · exact ⟨g, A, c, e, ⟨h2, h3, h4, .inl h5⟩, hg⟩
  · refine ⟨g, _, c, e, ⟨h2, h3, h4, .inr ⟨off, rfl, Nat.lt_of_lt_of_le hq ho.size, fun k hk => ?_⟩⟩, hg⟩
    have hk6 := h6 k hk
    have hne : g ≠ g1 := by
      rintro rfl
      have hb := show W.heap[g]? = _ from h1
      simp only [World.cell?, hb] at hk6
      have : (#[u] : Array Value)[off + k]? = some (.int .u8 l[k]) := by simpa using hk6
      have h0 : off + k = 0 := by
        have := (Array.getElem?_eq_some_iff.1 this).1
        simpa using this
      rw [h0] at this
      simp at this
      exact hu _ this
    exact (World.cell?_of_block (a := ⟨g, _, none⟩) (ho.block g hq hne)).trans hk6
/-- Between two rounds: what was put so far, and whether a range has come. -/
structure BI (Bo B1 : Nat) (base : List Int) (w0 : World) (pre : List (Int × (Int × Int))) (W : World) : Prop where
  out : ∃ v, Blk W Bo 27 #[v] ∧ Os W Bo v (putL base (seqW true pre))
  fst : Blk W B1 4 #[.bool pre.isEmpty]
  only : Only (fun k => k = Bo ∨ k = B1) w0 W
theorem BI.own (Bo B1 : Nat) (base : List Int) (w0 : World) : OwnFrom w0.heap.size (BI Bo B1 base w0) := fun s W W' row hs hg hr => by
  obtain ⟨⟨v, h1, h2⟩, h3, h4⟩ := hs
  exact ⟨⟨v, blk_own h1 hg (fun r e => (hr r e).2), os_own h2 hg (fun r e => (hr r e).2)⟩, blk_own h3 hg (fun r e => (hr r e).2), only_own h4 hg (fun r e => (hr r e).1)⟩
/-- The frame and the box of the range that has come. -/
def BAx (B1 Bf B : Nat) (x : Int × (Int × Int)) (a : Act) (W : World) : Prop := ∃ Bx, AtB Bf B1 x.1 Bx a ∧ Blk W Bx 36 #[.int .i64 x.2.1, .int .i64 x.2.2] ∧ B ≤ Bx
theorem BAx.own (B1 Bf B : Nat) (x : Int × (Int × Int)) (a : Act) (B' : Nat) : OwnFrom B' (fun (_ : Unit) W => BAx B1 Bf B x a W) := fun _ W W' row hs hg hr => by
  obtain ⟨Bx, h1, h2, h3⟩ := hs
  exact ⟨Bx, h1, blk_own h2 hg (fun r e => (hr r e).2), h3⟩
/-- What Bytes answers. -/
def BytesPost (w0 : World) (x : List Int × Int) (e : Ending) (w' : World) : Prop :=
  ∃ q A c, e = .returned (.tuple #[.slice A x.1.length c, .int .i64 x.2]) ∧ Sl w' q A x.1.length c x.1 ∧ Below w0.heap.size w0 w'
set_option maxRecDepth 100000 in
set_option maxHeartbeats 4000000 in
theorem bytes_any (a : Frm.Ak) (A : Option Addr) (m c : Nat) (w : World) (hL : Lim w) (hr : Rg w A m c a.rs) (hm : m ≤ 1000) :
    Calls Tryd.prog 13 #[av a A m c] w (BytesPost w (Frm.bytes a)) := by
  have hlen := hr.1
  have hbA := Blk.new w 25 #[.int .i64 a.d, .slice A m c, .bool a.mkd, .int .i64 a.e0, .int .i64 a.e1, .int .i64 a.e2]
  have hlow := laterA (Below.refl w.heap.size w) (.cells #[.int .i64 a.d, .slice A m c, .bool a.mkd, .int .i64 a.e0, .int .i64 a.e1, .int .i64 a.e2] 25)
  have hC := check_any a A m c _ (hr.later hlow) hm
  unfold av at hC ⊢
  obtain ⟨Y, hY⟩ : ∃ Y, Frm.bytes a = Y := ⟨_, rfl⟩
  rw [hY]
  replace hbA := Lib.hid hbA
  replace hlow := Lib.hid hlow
  replace hr := Lib.hid hr
  replace hY := Lib.hid hY
  refine (callsIn_wide (n := 3)).1 ?_
  refine callsIn_of_wp_marks Tryd.func13 rfl trivial ?_ rfl
  simp only [Tryd.ntmps13, List.size_toArray, List.length_cons, List.length_nil, Nat.reduceAdd, Nat.reduceSub, Array.replicate_succ, Array.replicate_zero, List.push_toArray, List.append_toArray, List.nil_append, List.cons_append]
  refine wpIn_wide.2 ?_
  go_wp2_with fail
  with_reducible refine hC.mono ?_
  clear hC
  rintro e w1 ⟨rfl, hb1⟩
  have hbA1 := hbA.out.later hb1
  have hlow1 := old_later2 hlow.out hb1 (by simp)
  have hlt1 := hbA1.lt
  cases hk : Frm.chk a with
  | false =>
    have hYe : Y = ([], 2) := by rw [← hY.out]; unfold Frm.bytes; rw [hk]; rfl
    replace hbA1 := Lib.hid hbA1
    replace hlow1 := Lib.hid hlow1
    replace hb1 := Lib.hid hb1
    replace hYe := Lib.hid hYe
    go_wp2_with fail
    refine bodyM_ret (results_tmp2 rfl _ _) rfl ?_
    rw [hYe.out]
    exact ⟨0, none, 0, rfl, Sl.nil _ _, hlow1.out⟩
  | true =>
    obtain ⟨mk, hmk⟩ : ∃ b, a.mkd = b := ⟨_, rfl⟩
    have cm := hbA1.cell 2
    simp at cm
    rw [hmk] at cm
    have hr1 := hr.out.later hlow1
    replace hbA1 := Lib.hid hbA1
    replace hlow1 := Lib.hid hlow1
    replace hb1 := Lib.hid hb1
    replace hr1 := Lib.hid hr1
    replace hmk := Lib.hid hmk
    cases mk with
    | false =>
      go_wp2_with fail
      have hbG := Blk.new w1 5 #[.int .u8 2]
      have hbO := Blk.new (w1.alloc (.cells #[.int .u8 2] 5)) 27 #[.slice (some ⟨w1.heap.size, 0, none⟩) 1 1]
      have hbF := Blk.new ((w1.alloc (.cells #[.int .u8 2] 5)).alloc (.cells #[.slice (some ⟨w1.heap.size, 0, none⟩) 1 1] 27)) 58 #[.func (.func 35) #[] #[.pointer (some ⟨w1.heap.size + 1, 0, none⟩)]]
      have hl4 := laterA (laterA (laterA (Below.refl w1.heap.size w1) (.cells #[.int .u8 2] 5)) (.cells #[.slice (some ⟨w1.heap.size, 0, none⟩) 1 1] 27)) (.cells #[.func (.func 35) #[] #[.pointer (some ⟨w1.heap.size + 1, 0, none⟩)]] 58)
      replace hbG := (hbG.alloc (.cells #[.slice (some ⟨w1.heap.size, 0, none⟩) 1 1] 27)).alloc (.cells #[.func (.func 35) #[] #[.pointer (some ⟨w1.heap.size + 1, 0, none⟩)]] 58)
      replace hbO := hbO.alloc (.cells #[.func (.func 35) #[] #[.pointer (some ⟨w1.heap.size + 1, 0, none⟩)]] 58)
      obtain ⟨W, hW⟩ : ∃ W, ((w1.alloc (.cells #[.int .u8 2] 5)).alloc (.cells #[.slice (some ⟨w1.heap.size, 0, none⟩) 1 1] 27)).alloc (.cells #[.func (.func 35) #[] #[.pointer (some ⟨w1.heap.size + 1, 0, none⟩)]] 58) = W := ⟨_, rfl⟩
      simp only [World.size_alloc] at hbO hbF
      rw [hW] at hbG hbO hbF hl4 ⊢
      clear hW
      have hbA4 := hbA1.out.later hl4
      have hlow4 := old_later2 hlow1.out hl4 hlow1.out.size
      have hr4 := hr1.out.later hl4
      obtain ⟨q0, off0, hAe, hq0, hcs0⟩ := hr4.at (by have := Frm.chk_parts hk; obtain ⟨⟨p, t, hp, _⟩, _⟩ := this; rw [hp] at hlen; simp at hlen; omega)
      subst hAe
      obtain ⟨lo0, hi0, rst, hrs⟩ : ∃ lo hi t, a.rs = (lo, hi) :: t := by
        obtain ⟨⟨p, t, hp, _⟩, _⟩ := Frm.chk_parts hk
        exact ⟨p.1, p.2, t, hp⟩
      have hmp : 0 < m := by rw [← hlen, hrs]; simp
      have hmi : (0 : Int) < (m : Int) := by omega
      have hx0 := (hcs0 0 (lo0, hi0) (by rw [hrs]; rfl)).2
      simp only [Nat.zero_mul, Nat.add_zero] at hx0
      have hwm : IntKind.i64.wrap ((m : Int) - 1) = (m : Int) - 1 := IntWalk.i64_in _ (by omega)
      have hW5 := laterA (Below.refl W.drew.heap.size W.drew) (.cells #[.int .i64 hi0, .int .i64 a.d, .int .i64 ((m : Int) - 1)] 3)
      have hbI : Blk (W.drew.alloc _) W.heap.size 3 #[.int .i64 hi0, .int .i64 a.d, .int .i64 ((m : Int) - 1)] := Blk.new W.drew 3 #[.int .i64 hi0, .int .i64 a.d, .int .i64 ((m : Int) - 1)]
      have hos0 : Os W (w1.heap.size + 1) (.slice (some ⟨w1.heap.size, 0, none⟩) 1 1) [2] := ⟨_, _, _, rfl, one_sl hbG, by omega⟩
      have hGlt := hbO.lt
      have hP := put1_any w hL (w1.heap.size + 1) W.heap.size 0 3 [hi0, a.d, (m : Int) - 1] [2] (.slice (some ⟨w1.heap.size, 0, none⟩) 1 1) _ (old_later2 (laterD_ hlow4) hW5 hlow4.size) (by omega) (hbO.drew.later hW5) ((hos0.later (laterD_ (Below.refl _ _))).later hW5) (by simp) (by omega) (three_at hbI) (by simp) (by simp)
      simp only [List.length_cons, List.length_nil, Nat.reduceAdd, Nat.zero_add] at hP
      rw [show W.drew.alloc (.cells #[.int .i64 hi0, .int .i64 a.d, .int .i64 ((m : Int) - 1)] 3) = (W.alloc (.cells #[.int .i64 hi0, .int .i64 a.d, .int .i64 ((m : Int) - 1)] 3)).drew from rfl] at hP
      have k1 := hbF.cell 0
      have k2 := hbA4.cell 1
      have k4 := hbA4.cell 0
      simp at k1 k2 k4
      have l1 := cell_al (w := W.drew) k1 (.cells #[.int .i64 hi0, .int .i64 a.d, .int .i64 ((m : Int) - 1)] 3)
      have l2 := cell_al (w := W.drew) k2 (.cells #[.int .i64 hi0, .int .i64 a.d, .int .i64 ((m : Int) - 1)] 3)
      have l3 := cell_al (w := W.drew) hx0 (.cells #[.int .i64 hi0, .int .i64 a.d, .int .i64 ((m : Int) - 1)] 3)
      have l4 := cell_al (w := W.drew) k4 (.cells #[.int .i64 hi0, .int .i64 a.d, .int .i64 ((m : Int) - 1)] 3)
      have hqO : q0 ≠ w1.heap.size + 1 := by
        have h1 := hr1.out
        obtain ⟨_, _, _, ⟨h2, _⟩ | ⟨q', off', h2, h3, _⟩⟩ := h1
        · simp at h2
        · injection h2 with h2; injection h2 with h2; omega
      have hAO : w.heap.size ≠ w1.heap.size + 1 := by omega
      have hW5' : Below W.heap.size W (W.drew.alloc (.cells #[.int .i64 hi0, .int .i64 a.d, .int .i64 ((m : Int) - 1)] 3)) := ⟨hW5.os, hW5.tape, hW5.output, hW5.size, hW5.block⟩
      replace hP := Lib.hid hP
      replace hbG := Lib.hid hbG
      replace hbO := Lib.hid hbO
      replace hbF := Lib.hid hbF
      replace hl4 := Lib.hid hl4
      replace hbA4 := Lib.hid hbA4
      replace hlow4 := Lib.hid hlow4
      replace hr4 := Lib.hid hr4
      replace hcs0 := Lib.hid hcs0
      replace hW5 := Lib.hid hW5
      replace hW5' := Lib.hid hW5'
      replace hbI := Lib.hid hbI
      replace hos0 := Lib.hid hos0
      replace hrs := Lib.hid hrs
      clear cm
      go_region_held3 (fun w' => w'.cell? ⟨w1.heap.size + 1 + 1, 0, none⟩ = some (.func (.func 35) #[] #[.pointer (some ⟨w1.heap.size + 1, 0, none⟩)]) ∧ w'.cell? ⟨w.heap.size, 1, none⟩ = some (.slice (some ⟨q0, off0, none⟩) m c) ∧ w'.cell? ⟨q0, off0 + 1, none⟩ = some (.int .i64 hi0) ∧ w'.cell? ⟨w.heap.size, 0, none⟩ = some (.int .i64 a.d)) (first | exact ⟨k1, k2, hx0, k4⟩ | exact ⟨l1, l2, l3, l4⟩ | exact ⟨j1, j2, j3, j4⟩) (first | (go_at_call 35; (with_reducible refine hP.out.mono ?_); rintro e w6 ⟨⟨r6, rfl⟩, v6, hbO6, hos6, hon6⟩; have j1 := cell_only hon6 (by simp) l1; have j2 := cell_only hon6 hAO l2; have j3 := cell_only hon6 hqO l3; have j4 := cell_only hon6 hAO l4; have hn6 := Lib.hid ((Only.of_below (F := (· = w1.heap.size + 1)) hW5'.out).trans hon6); replace hbO6 := Lib.hid hbO6; replace hos6 := Lib.hid hos6; clear hon6))
      have hbA6 := hbA4.out.only hn6.out hAO
      have hbF6 := hbF.out.only hn6.out (show ¬ w1.heap.size + 1 + 1 = w1.heap.size + 1 by omega)
      have hr6 := hr4.out.only hn6.out (fun x hx => by injection hx with hx; subst hx; exact hqO)
      have hFlt6 := hbF6.lt
      have hlow6 := only_old hlow4.out hn6.out (by rintro i rfl; omega) hlow4.out.size
      clear k1 k2 k4 l1 l2 l3 l4 j1 j2 j3 j4 hP hbG hbO hbF hl4 hbA4 hlow4 hr4 hcs0 hW5 hW5' hbI hos0 hx0 hwm hGlt hn6
      rename_i hHeld
      clear hHeld
      have hb7 := laterA (Below.refl w6.heap.size w6) (.cells #[.bool true] 4)
      have hb1 := Blk.new w6 4 #[.bool true]
      have hbA7 := hbA6.later hb7
      have hG := gaps_any a (some ⟨q0, off0, none⟩) m c (w6.alloc (.cells #[.bool true] 4))
      unfold av at hG
      have c0 := hbA7.cell 0
      have c1 := hbA7.cell 1
      have c2 := hbA7.cell 2
      have c3 := hbA7.cell 3
      have c4 := hbA7.cell 4
      have c5 := hbA7.cell 5
      simp at c0 c1 c2 c3 c4 c5
      have hlt6 := hbA6.lt
      have d0 := hbA6.cell 0
      have d1 := hbA6.cell 1
      have d2 := hbA6.cell 2
      have d3 := hbA6.cell 3
      have d4 := hbA6.cell 4
      have d5 := hbA6.cell 5
      simp at d0 d1 d2 d3 d4 d5
      replace hbA6 := Lib.hid hbA6
      replace hbF6 := Lib.hid hbF6
      replace hr6 := Lib.hid hr6
      replace hlow6 := Lib.hid hlow6
      replace hb7 := Lib.hid hb7
      replace hb1 := Lib.hid hb1
      replace hbA7 := Lib.hid hbA7
      go_wp2_with fail
      with_reducible refine hG.mono ?_
      rintro e w8 ⟨rfl, hw8⟩
      clear hG c0 c1 c2 c3 c4 c5 d0 d1 d2 d3 d4 d5
      have hb8 := laterA (Below.refl (w6.alloc (.cells #[.bool true] 4)).heap.size (w6.alloc (.cells #[.bool true] 4))) (.cells #[.int .i64 a.d, .slice (some ⟨q0, off0, none⟩) m c, .bool a.mkd, .int .i64 a.e0, .int .i64 a.e1, .int .i64 a.e2] 25)
      have hbX := Blk.new (w6.alloc (.cells #[.bool true] 4)) 25 #[.int .i64 a.d, .slice (some ⟨q0, off0, none⟩) m c, .bool a.mkd, .int .i64 a.e0, .int .i64 a.e1, .int .i64 a.e2]
      rw [← hw8] at hb8 hbX
      rw [World.size_alloc] at hbX
      have hbA8 := hbA7.out.later hb8
      have hb18 := hb1.out.later hb8
      have hb68 : Below w6.heap.size w6 w8 := old_later2 hb7.out hb8 hb7.out.size
      have hbF8 := hbF6.out.later hb68
      have hbO8 := hbO6.out.later hb68
      have hos8 := hos6.out.later hb68
      have hr8 := hr6.out.later hb68
      have hlow8 := old_later2 hlow6.out hb68 hlow6.out.size
      have hXlt := hbX.lt
      have hOlt := hbO6.out.lt
      have hq8 : q0 < w8.heap.size := by
        obtain ⟨_, _, _, ⟨h2, _⟩ | ⟨q', off', h2, h3, _⟩⟩ := hr8
        · simp at h2
        · injection h2 with h2; injection h2 with h2; omega
      have hq6 : q0 < w6.heap.size := by
        obtain ⟨_, _, _, ⟨h2, _⟩ | ⟨q', off', h2, h3, _⟩⟩ := hr6.out
        · simp at h2
        · injection h2 with h2; injection h2 with h2; omega
      have hm256 : m ≤ 256 := by
        obtain ⟨⟨p, t, hp, ht⟩, _⟩ := Frm.chk_parts hk
        rw [hp] at hlen
        simp at hlen
        omega
      obtain ⟨base, hbase⟩ : ∃ b, putL [2] [hi0, a.d, (m : Int) - 1] = b := ⟨_, rfl⟩
      have hbl := putL_len [hi0, a.d, (m : Int) - 1] [2]
      rw [hbase] at hbl hos8
      simp only [List.length_cons, List.length_nil] at hbl
      have hall : a.rs.all Frm.okR = true := (Frm.chk_parts hk).2.2.1
      have hFlt := hbF8.lt
      have hwlt : w.heap.size ≤ w1.heap.size := by omega
      replace hbX := Lib.hid hbX
      replace hbA8 := Lib.hid hbA8
      replace hb18 := Lib.hid hb18
      replace hb68 := Lib.hid hb68
      replace hbF8 := Lib.hid hbF8
      replace hbO8 := Lib.hid hbO8
      replace hos8 := Lib.hid hos8
      replace hr8 := Lib.hid hr8
      replace hlow8 := Lib.hid hlow8
      replace hbase := Lib.hid hbase
      replace hw8 := Lib.hid hw8
      clear hb8 hbA6 hbF6 hr6 hlow6 hb7 hb1 hbA7 hbO6 hos6
      go_wp2_with fail
      refine (wpIn_wide (n := 3)).1 ?_
      refine' wpIn_rangeFunc_ownH (F := Fence.wide) rfl (by omega) (gf := 57) (lb := #[.pointer (some ⟨w6.heap.size + 1, 0, none⟩)]) rfl trivial (enters_of Tryd.func57 (by kernel_rfl) rfl)
        (gaps_stops (3 - 1) (w6.heap.size + 1) a (some ⟨q0, off0, none⟩) m c w8 (by omega) hm hall hbX.out hr8.out) Kg.trans (Kg.put (B := w8.heap.size) hXlt (fun x hx => by injection hx with hx; subst hx; exact hq8)) (Below.refl _ _) (fun _ => rfl)
        (BI (w1.heap.size + 1) w6.heap.size base w8) (fun _ _ _ => False) (BI.own _ _ _ _) (fun _ _ _ _ _ hs _ _ => hs)
        ⟨⟨_, hbO8.out, hos8.out⟩, hb18.out, Only.refl _ _⟩ (BAx w6.heap.size (w1.heap.size + 1 + 1) w8.heap.size) (fun x a' => BAx.own _ _ _ x a' _) ?assign ?body ?done ?stop
      case assign =>
        intro l pre x W9 K hI hK
        rw [zip2]
        gi_wp2
        exact hK _ _ ((KeepsOthers.alloc _ _).from _) (kg_alloc (Nat.lt_of_lt_of_le hXlt hI.only.size) (Nat.lt_of_lt_of_le hq8 hI.only.size) _)
          ⟨hI.out.elim fun v hv => ⟨v, hv.1.alloc _, hv.2.later (laterA (Below.refl _ _) _)⟩, hI.fst.alloc _, hI.only.trans (Only.of_below (laterA (Below.refl _ _) _))⟩ ⟨W9.heap.size, atB_mk rfl, Blk.new W9 _ _, hI.only.size⟩
      case body =>
        rintro l pre x a' W9 hl ⟨r, hr⟩ hI ⟨Bx, ⟨f, rfl⟩, hbx, hBx⟩ hlt
        obtain ⟨⟨v9, hbO9, hos9⟩, hb19, hon9⟩ := hI
        have hbF9 := hbF8.out.only hon9 (by rintro (h | h) <;> omega)
        have hlow9 := only_old hlow8.out hon9 (by rintro k (rfl | rfl) <;> omega) hlow8.out.size
        have hsl := seqW_len true pre
        have hpl := putL_len (seqW true pre) base
        obtain ⟨Dw, hDw⟩ : ∃ d, IntKind.i64.wrap (x.2.2 - x.2.1) = d := ⟨_, rfl⟩
        have hwd : wdW x = Dw := hDw
        have hxs := hon9.size
        have hO9 := hbO9.lt
        have n1 : w1.heap.size + 1 + 1 ≠ w6.heap.size := by omega
        have n2 : Bx ≠ w6.heap.size := by omega
        have n3 : w1.heap.size + 1 ≠ w6.heap.size := by omega
        have n4 : Bx ≠ w1.heap.size + 1 := by omega
        cases hpe : pre.isEmpty with
        | true =>
          rw [hpe] at hb19
          have hsn : putL base (seqW true (pre ++ [x])) = putL (putL base (seqW true pre)) [Dw] := by
            rw [seqW_snoc, hpe, putL_append, ← hwd]; rfl
          have y1 := hbF9.cell 0
          have y2 := hbx.cell 0
          have y3 := hbx.cell 1
          have y4 := hb19.cell 0
          have y5 := hb19.frozen 0
          simp at y1 y2 y3 y4
          have hoS : Only (fun k => k = w1.heap.size + 1 ∨ k = w6.heap.size) W9 (W9.setCell ⟨w6.heap.size, 0, none⟩ (.bool false)) := Only.set (F := fun k => k = w1.heap.size + 1 ∨ k = w6.heap.size) (p := ⟨w6.heap.size, 0, none⟩) (Only.refl _ _) (.inr rfl) _
          have hoS1 : Only (· = w6.heap.size) W9 (W9.setCell ⟨w6.heap.size, 0, none⟩ (.bool false)) := Only.set (F := (· = w6.heap.size)) (p := ⟨w6.heap.size, 0, none⟩) (Only.refl _ _) rfl _
          have hbOS := hbO9.only hoS1 n3
          have hosS := os_only1 hos9 hb19 hoS1
          have hb1S := hb19.set_ 0 (.bool false)
          have hlowS := only_old hlow9 hoS (by rintro k (rfl | rfl) <;> omega) hlow9.size
          have hszS : (W9.setCell ⟨w6.heap.size, 0, none⟩ (.bool false)).heap.size = W9.heap.size := by simp [World.setCell]
          have hWb := laterA (Below.refl (W9.setCell ⟨w6.heap.size, 0, none⟩ (.bool false)).heap.size (W9.setCell ⟨w6.heap.size, 0, none⟩ (.bool false))) (.cells #[.int .i64 Dw] 3)
          have hPb := put1_any w hL (w1.heap.size + 1) W9.heap.size 0 1 [Dw] (putL base (seqW true pre)) v9 _ (old_later2 hlowS hWb hlowS.size) (by omega) (hbOS.later hWb) (hosS.later hWb) (by rw [World.size_alloc, hszS]; omega) (by have := hbO9.lt; omega) (by have := one_at (Blk.new (W9.setCell ⟨w6.heap.size, 0, none⟩ (.bool false)) 3 #[.int .i64 Dw]); rw [hszS] at this; exact this) (by simp) (by omega)
          simp only [List.length_cons, List.length_nil, Nat.zero_add] at hPb
          replace hbOS := Lib.hid hbOS
          replace hosS := Lib.hid hosS
          replace hb1S := Lib.hid hb1S
          replace hlowS := Lib.hid hlowS
          replace hPb := Lib.hid hPb
          replace hWb := Lib.hid hWb
          replace hoS := Lib.hid hoS
          replace hsn := Lib.hid hsn
          gi_wp2
          refine ⟨trivial, ?_⟩
          refine (CallsIn.inRound l (callsIn_wide.2 hPb.out)).mono ?_
          rintro e w11 ⟨⟨r11, rfl⟩, v11, hbO11, hos11, hon11⟩
          have hoT : Only (fun k => k = w1.heap.size + 1 ∨ k = w6.heap.size) W9 w11 := ((Only.refl _ W9).trans (hoS.out.trans (Only.of_below hWb.out))).trans (hon11.mono (fun k hk => .inl hk))
          have hb111 := (hb1S.out.later hWb.out).only hon11 (by omega)
          gi_wp2
          refine ⟨keeps_only hoT (by rintro k (rfl | rfl) <;> omega), kg_only hoT (by omega) (by omega) (by omega) (by omega), ⟨⟨v11, hbO11, ?_⟩, ?_, hon9.trans hoT⟩⟩
          · rw [hsn.out]; exact hos11
          · rw [show (pre ++ [x]).isEmpty = false by cases pre <;> rfl]; exact hb111
        | false =>
          rw [hpe] at hb19
          have hsn : putL base (seqW true (pre ++ [x])) = putL (putL (putL base (seqW true pre)) [x.1]) [Dw] := by
            rw [seqW_snoc, hpe, putL_append, ← hwd]; rfl
          have y1 := hbF9.cell 0
          have y4 := hb19.cell 0
          simp at y1 y4
          have hWa := laterA (Below.refl W9.heap.size W9) (.cells #[.int .i64 x.1] 3)
          have hPa := put1_any w hL (w1.heap.size + 1) W9.heap.size 0 1 [x.1] (putL base (seqW true pre)) v9 _ (old_later2 hlow9 hWa hlow9.size) (by omega) (hbO9.later hWa) (hos9.later hWa) (by simp) (by omega) (one_at (Blk.new W9 3 #[.int .i64 x.1])) (by simp) (by omega)
          simp only [List.length_cons, List.length_nil, Nat.zero_add] at hPa
          replace hbO9 := Lib.hid hbO9
          replace hos9 := Lib.hid hos9
          replace hb19 := Lib.hid hb19
          replace hbF9 := Lib.hid hbF9
          replace hlow9 := Lib.hid hlow9
          replace hPa := Lib.hid hPa
          replace hbx := Lib.hid hbx
          replace hWa := Lib.hid hWa
          replace hon9 := Lib.hid hon9
          replace hsn := Lib.hid hsn
          gi_wp2
          refine ⟨trivial, ?_⟩
          refine (CallsIn.inRound l (callsIn_wide.2 hPa.out)).mono ?_
          rintro e w10 ⟨⟨r10, rfl⟩, v10, hbO10, hos10, hon10⟩
          have hpl2 := putL_len [x.1] (putL base (seqW true pre))
          simp only [List.length_cons, List.length_nil] at hpl2
          have ho10 : Only (fun k => k = w1.heap.size + 1 ∨ k = w6.heap.size) W9 w10 := (Only.of_below hWa.out).trans (hon10.mono (fun k hk => .inl hk))
          have hb110 := (hb19.out.later hWa.out).only hon10 (by omega)
          have hbF10 := (hbF9.out.later hWa.out).only hon10 (by omega)
          have hbx10 := (hbx.out.later hWa.out).only hon10 n4
          have hlow10 := only_old hlow9.out ho10 (by rintro k (rfl | rfl) <;> omega) hlow9.out.size
          clear y1 y4 hPa
          replace hbx := hbx10
          have y1 := hbF10.cell 0
          have y2 := hbx.cell 0
          have y3 := hbx.cell 1
          have y4 := hb110.cell 0
          have y5 := hb110.frozen 0
          simp at y1 y2 y3 y4
          replace hsn := hsn.out
          replace hon9 := hon9.out
          have hoS : Only (fun k => k = w1.heap.size + 1 ∨ k = w6.heap.size) w10 (w10.setCell ⟨w6.heap.size, 0, none⟩ (.bool false)) := Only.set (F := fun k => k = w1.heap.size + 1 ∨ k = w6.heap.size) (p := ⟨w6.heap.size, 0, none⟩) (Only.refl _ _) (.inr rfl) _
          have hoS1 : Only (· = w6.heap.size) w10 (w10.setCell ⟨w6.heap.size, 0, none⟩ (.bool false)) := Only.set (F := (· = w6.heap.size)) (p := ⟨w6.heap.size, 0, none⟩) (Only.refl _ _) rfl _
          have hbOS := hbO10.only hoS1 n3
          have hosS := os_only1 hos10 hb110 hoS1
          have hb1S := hb110.set_ 0 (.bool false)
          have hlowS := only_old hlow10 hoS (by rintro k (rfl | rfl) <;> omega) hlow10.size
          have hszS : (w10.setCell ⟨w6.heap.size, 0, none⟩ (.bool false)).heap.size = w10.heap.size := by simp [World.setCell]
          have hWb := laterA (Below.refl (w10.setCell ⟨w6.heap.size, 0, none⟩ (.bool false)).heap.size (w10.setCell ⟨w6.heap.size, 0, none⟩ (.bool false))) (.cells #[.int .i64 Dw] 3)
          have hPb := put1_any w hL (w1.heap.size + 1) w10.heap.size 0 1 [Dw] (putL (putL base (seqW true pre)) [x.1]) v10 _ (old_later2 hlowS hWb hlowS.size) (by omega) (hbOS.later hWb) (hosS.later hWb) (by rw [World.size_alloc, hszS]; omega) (by have := hbO10.lt; omega) (by have := one_at (Blk.new (w10.setCell ⟨w6.heap.size, 0, none⟩ (.bool false)) 3 #[.int .i64 Dw]); rw [hszS] at this; exact this) (by simp) (by omega)
          simp only [List.length_cons, List.length_nil, Nat.zero_add] at hPb
          replace hbOS := Lib.hid hbOS
          replace hosS := Lib.hid hosS
          replace hb1S := Lib.hid hb1S
          replace hlowS := Lib.hid hlowS
          replace hPb := Lib.hid hPb
          replace hWb := Lib.hid hWb
          replace hoS := Lib.hid hoS
          replace hsn := Lib.hid hsn
          gi_wp2
          refine ⟨trivial, ?_⟩
          refine (CallsIn.inRound l (callsIn_wide.2 hPb.out)).mono ?_
          rintro e w11 ⟨⟨r11, rfl⟩, v11, hbO11, hos11, hon11⟩
          have hoT : Only (fun k => k = w1.heap.size + 1 ∨ k = w6.heap.size) W9 w11 := (ho10.trans (hoS.out.trans (Only.of_below hWb.out))).trans (hon11.mono (fun k hk => .inl hk))
          have hb111 := (hb1S.out.later hWb.out).only hon11 (by omega)
          gi_wp2
          refine ⟨keeps_only hoT (by rintro k (rfl | rfl) <;> omega), kg_only hoT (by omega) (by omega) (by omega) (by omega), ⟨⟨v11, hbO11, ?_⟩, ?_, hon9.trans hoT⟩⟩
          · rw [hsn.out]; exact hos11
          · rw [show (pre ++ [x]).isEmpty = false by cases pre <;> rfl]; exact hb111
      case done =>
        rintro D ys W9 hD rfl ⟨⟨v9, hbO9, hos9⟩, hb19, hon9⟩ hK
        have hbF9 := hbF8.out.only hon9 (by rintro (h | h) <;> omega)
        have hbA9 := hbA8.out.only hon9 (by rintro (h | h) <;> omega)
        have hlow9 := only_old hlow8.out hon9 (by rintro k (rfl | rfl) <;> omega) hlow8.out.size
        have hfin := bytes_putL hk m hlen
        rw [hY.out, hmk.out, hrs.out, ← hrs.out] at hfin
        have hY2 : Y.2 = 0 := by rw [← hY.out]; unfold Frm.bytes; rw [hk]; rfl
        have hhd : (a.rs.headD (0, 0)).2 = hi0 := by rw [hrs.out]; rfl
        rw [hhd] at hfin
        have c2 := hbA9.cell 2
        have k1 := hbF9.cell 0
        have o0 := hbO9.cell 0
        simp at c2 k1 o0
        rw [hmk.out] at c2
        have hsl := seqW_len true (gpn a.rs m)
        rw [gpn_length] at hsl
        have hpl := putL_len (seqW true (gpn a.rs m)) base
        simp only [Bool.false_eq_true, if_false] at hfin
        rw [hbase.out] at hfin
        simp only [putL, List.foldl_nil] at hfin
        obtain ⟨g, A9, c9, rfl, hsl9, hg9⟩ := hos9
        have hlD : w.heap.size ≤ D := Nat.le_trans hlow8.out.size hD
        replace hsl9 := Lib.hid hsl9
        replace hbO9 := Lib.hid hbO9
        replace hb19 := Lib.hid hb19
        replace hon9 := Lib.hid hon9
        replace hK := Lib.hid hK
        replace hlow9 := Lib.hid hlow9
        replace hfin := Lib.hid hfin
        replace hY2 := Lib.hid hY2
        replace hlD := Lib.hid hlD
        go_wp2_with fail
        refine bodyM_ret1 rfl hK.out (results_tmp2 rfl _ _) ?_
        have hsf := sl_own hsl9.out (grownBy_putObj' W9 D (.deferred none)) (fun r e => by cases e; exact ⟨_, hK.out, rfl⟩)
        have hfin' : putL base (seqW true (gpn a.rs m)) = Y.1 := hfin.out
        rw [hfin'] at hsf
        refine ⟨g, A9, c9, ?_, hsf, below_put hlow9.out hlD.out _⟩
        rw [hY2.out, ← hfin']
        rfl
      case stop =>
        rintro D c pre W9 _ _ h _
        exact h.elim
    | true =>
      go_wp2_with fail
      have hbG := Blk.new w1 5 #[.int .u8 3]
      have hbO := Blk.new (w1.alloc (.cells #[.int .u8 3] 5)) 27 #[.slice (some ⟨w1.heap.size, 0, none⟩) 1 1]
      have hbF := Blk.new ((w1.alloc (.cells #[.int .u8 3] 5)).alloc (.cells #[.slice (some ⟨w1.heap.size, 0, none⟩) 1 1] 27)) 58 #[.func (.func 35) #[] #[.pointer (some ⟨w1.heap.size + 1, 0, none⟩)]]
      have hl4 := laterA (laterA (laterA (Below.refl w1.heap.size w1) (.cells #[.int .u8 3] 5)) (.cells #[.slice (some ⟨w1.heap.size, 0, none⟩) 1 1] 27)) (.cells #[.func (.func 35) #[] #[.pointer (some ⟨w1.heap.size + 1, 0, none⟩)]] 58)
      replace hbG := (hbG.alloc (.cells #[.slice (some ⟨w1.heap.size, 0, none⟩) 1 1] 27)).alloc (.cells #[.func (.func 35) #[] #[.pointer (some ⟨w1.heap.size + 1, 0, none⟩)]] 58)
      replace hbO := hbO.alloc (.cells #[.func (.func 35) #[] #[.pointer (some ⟨w1.heap.size + 1, 0, none⟩)]] 58)
      obtain ⟨W, hW⟩ : ∃ W, ((w1.alloc (.cells #[.int .u8 3] 5)).alloc (.cells #[.slice (some ⟨w1.heap.size, 0, none⟩) 1 1] 27)).alloc (.cells #[.func (.func 35) #[] #[.pointer (some ⟨w1.heap.size + 1, 0, none⟩)]] 58) = W := ⟨_, rfl⟩
      simp only [World.size_alloc] at hbO hbF
      rw [hW] at hbG hbO hbF hl4 ⊢
      clear hW
      have hbA4 := hbA1.out.later hl4
      have hlow4 := old_later2 hlow1.out hl4 hlow1.out.size
      have hr4 := hr1.out.later hl4
      obtain ⟨q0, off0, hAe, hq0, hcs0⟩ := hr4.at (by have := Frm.chk_parts hk; obtain ⟨⟨p, t, hp, _⟩, _⟩ := this; rw [hp] at hlen; simp at hlen; omega)
      subst hAe
      obtain ⟨lo0, hi0, rst, hrs⟩ : ∃ lo hi t, a.rs = (lo, hi) :: t := by
        obtain ⟨⟨p, t, hp, _⟩, _⟩ := Frm.chk_parts hk
        exact ⟨p.1, p.2, t, hp⟩
      have hmp : 0 < m := by rw [← hlen, hrs]; simp
      have hmi : (0 : Int) < (m : Int) := by omega
      have hx0 := (hcs0 0 (lo0, hi0) (by rw [hrs]; rfl)).2
      simp only [Nat.zero_mul, Nat.add_zero] at hx0
      have hwm : IntKind.i64.wrap ((m : Int) - 1) = (m : Int) - 1 := IntWalk.i64_in _ (by omega)
      have hW5 := laterA (Below.refl W.drew.heap.size W.drew) (.cells #[.int .i64 hi0, .int .i64 a.d, .int .i64 ((m : Int) - 1)] 3)
      have hbI : Blk (W.drew.alloc _) W.heap.size 3 #[.int .i64 hi0, .int .i64 a.d, .int .i64 ((m : Int) - 1)] := Blk.new W.drew 3 #[.int .i64 hi0, .int .i64 a.d, .int .i64 ((m : Int) - 1)]
      have hos0 : Os W (w1.heap.size + 1) (.slice (some ⟨w1.heap.size, 0, none⟩) 1 1) [3] := ⟨_, _, _, rfl, one_sl hbG, by omega⟩
      have hGlt := hbO.lt
      have hP := put1_any w hL (w1.heap.size + 1) W.heap.size 0 3 [hi0, a.d, (m : Int) - 1] [3] (.slice (some ⟨w1.heap.size, 0, none⟩) 1 1) _ (old_later2 (laterD_ hlow4) hW5 hlow4.size) (by omega) (hbO.drew.later hW5) ((hos0.later (laterD_ (Below.refl _ _))).later hW5) (by simp) (by omega) (three_at hbI) (by simp) (by simp)
      simp only [List.length_cons, List.length_nil, Nat.reduceAdd, Nat.zero_add] at hP
      rw [show W.drew.alloc (.cells #[.int .i64 hi0, .int .i64 a.d, .int .i64 ((m : Int) - 1)] 3) = (W.alloc (.cells #[.int .i64 hi0, .int .i64 a.d, .int .i64 ((m : Int) - 1)] 3)).drew from rfl] at hP
      have k1 := hbF.cell 0
      have k2 := hbA4.cell 1
      have k4 := hbA4.cell 0
      simp at k1 k2 k4
      have l1 := cell_al (w := W.drew) k1 (.cells #[.int .i64 hi0, .int .i64 a.d, .int .i64 ((m : Int) - 1)] 3)
      have l2 := cell_al (w := W.drew) k2 (.cells #[.int .i64 hi0, .int .i64 a.d, .int .i64 ((m : Int) - 1)] 3)
      have l3 := cell_al (w := W.drew) hx0 (.cells #[.int .i64 hi0, .int .i64 a.d, .int .i64 ((m : Int) - 1)] 3)
      have l4 := cell_al (w := W.drew) k4 (.cells #[.int .i64 hi0, .int .i64 a.d, .int .i64 ((m : Int) - 1)] 3)
      have hqO : q0 ≠ w1.heap.size + 1 := by
        have h1 := hr1.out
        obtain ⟨_, _, _, ⟨h2, _⟩ | ⟨q', off', h2, h3, _⟩⟩ := h1
        · simp at h2
        · injection h2 with h2; injection h2 with h2; omega
      have hAO : w.heap.size ≠ w1.heap.size + 1 := by omega
      have hW5' : Below W.heap.size W (W.drew.alloc (.cells #[.int .i64 hi0, .int .i64 a.d, .int .i64 ((m : Int) - 1)] 3)) := ⟨hW5.os, hW5.tape, hW5.output, hW5.size, hW5.block⟩
      replace hP := Lib.hid hP
      replace hbG := Lib.hid hbG
      replace hbO := Lib.hid hbO
      replace hbF := Lib.hid hbF
      replace hl4 := Lib.hid hl4
      replace hbA4 := Lib.hid hbA4
      replace hlow4 := Lib.hid hlow4
      replace hr4 := Lib.hid hr4
      replace hcs0 := Lib.hid hcs0
      replace hW5 := Lib.hid hW5
      replace hW5' := Lib.hid hW5'
      replace hbI := Lib.hid hbI
      replace hos0 := Lib.hid hos0
      replace hrs := Lib.hid hrs
      clear cm
      go_region_held3 (fun w' => w'.cell? ⟨w1.heap.size + 1 + 1, 0, none⟩ = some (.func (.func 35) #[] #[.pointer (some ⟨w1.heap.size + 1, 0, none⟩)]) ∧ w'.cell? ⟨w.heap.size, 1, none⟩ = some (.slice (some ⟨q0, off0, none⟩) m c) ∧ w'.cell? ⟨q0, off0 + 1, none⟩ = some (.int .i64 hi0) ∧ w'.cell? ⟨w.heap.size, 0, none⟩ = some (.int .i64 a.d)) (first | exact ⟨k1, k2, hx0, k4⟩ | exact ⟨l1, l2, l3, l4⟩ | exact ⟨j1, j2, j3, j4⟩) (first | (go_at_call 35; (with_reducible refine hP.out.mono ?_); rintro e w6 ⟨⟨r6, rfl⟩, v6, hbO6, hos6, hon6⟩; have j1 := cell_only hon6 (by simp) l1; have j2 := cell_only hon6 hAO l2; have j3 := cell_only hon6 hqO l3; have j4 := cell_only hon6 hAO l4; have hn6 := Lib.hid ((Only.of_below (F := (· = w1.heap.size + 1)) hW5'.out).trans hon6); replace hbO6 := Lib.hid hbO6; replace hos6 := Lib.hid hos6; clear hon6))
      have hbA6 := hbA4.out.only hn6.out hAO
      have hbF6 := hbF.out.only hn6.out (show ¬ w1.heap.size + 1 + 1 = w1.heap.size + 1 by omega)
      have hr6 := hr4.out.only hn6.out (fun x hx => by injection hx with hx; subst hx; exact hqO)
      have hFlt6 := hbF6.lt
      have hlow6 := only_old hlow4.out hn6.out (by rintro i rfl; omega) hlow4.out.size
      clear k1 k2 k4 l1 l2 l3 l4 j1 j2 j3 j4 hP hbG hbO hbF hl4 hbA4 hlow4 hr4 hcs0 hW5 hW5' hbI hos0 hx0 hwm hGlt hn6
      rename_i hHeld
      clear hHeld
      have hb7 := laterA (Below.refl w6.heap.size w6) (.cells #[.bool true] 4)
      have hb1 := Blk.new w6 4 #[.bool true]
      have hbA7 := hbA6.later hb7
      have hG := gaps_any a (some ⟨q0, off0, none⟩) m c (w6.alloc (.cells #[.bool true] 4))
      unfold av at hG
      have c0 := hbA7.cell 0
      have c1 := hbA7.cell 1
      have c2 := hbA7.cell 2
      have c3 := hbA7.cell 3
      have c4 := hbA7.cell 4
      have c5 := hbA7.cell 5
      simp at c0 c1 c2 c3 c4 c5
      have hlt6 := hbA6.lt
      have d0 := hbA6.cell 0
      have d1 := hbA6.cell 1
      have d2 := hbA6.cell 2
      have d3 := hbA6.cell 3
      have d4 := hbA6.cell 4
      have d5 := hbA6.cell 5
      simp at d0 d1 d2 d3 d4 d5
      replace hbA6 := Lib.hid hbA6
      replace hbF6 := Lib.hid hbF6
      replace hr6 := Lib.hid hr6
      replace hlow6 := Lib.hid hlow6
      replace hb7 := Lib.hid hb7
      replace hb1 := Lib.hid hb1
      replace hbA7 := Lib.hid hbA7
      go_wp2_with fail
      with_reducible refine hG.mono ?_
      rintro e w8 ⟨rfl, hw8⟩
      clear hG c0 c1 c2 c3 c4 c5 d0 d1 d2 d3 d4 d5
      have hb8 := laterA (Below.refl (w6.alloc (.cells #[.bool true] 4)).heap.size (w6.alloc (.cells #[.bool true] 4))) (.cells #[.int .i64 a.d, .slice (some ⟨q0, off0, none⟩) m c, .bool a.mkd, .int .i64 a.e0, .int .i64 a.e1, .int .i64 a.e2] 25)
      have hbX := Blk.new (w6.alloc (.cells #[.bool true] 4)) 25 #[.int .i64 a.d, .slice (some ⟨q0, off0, none⟩) m c, .bool a.mkd, .int .i64 a.e0, .int .i64 a.e1, .int .i64 a.e2]
      rw [← hw8] at hb8 hbX
      rw [World.size_alloc] at hbX
      have hbA8 := hbA7.out.later hb8
      have hb18 := hb1.out.later hb8
      have hb68 : Below w6.heap.size w6 w8 := old_later2 hb7.out hb8 hb7.out.size
      have hbF8 := hbF6.out.later hb68
      have hbO8 := hbO6.out.later hb68
      have hos8 := hos6.out.later hb68
      have hr8 := hr6.out.later hb68
      have hlow8 := old_later2 hlow6.out hb68 hlow6.out.size
      have hXlt := hbX.lt
      have hOlt := hbO6.out.lt
      have hq8 : q0 < w8.heap.size := by
        obtain ⟨_, _, _, ⟨h2, _⟩ | ⟨q', off', h2, h3, _⟩⟩ := hr8
        · simp at h2
        · injection h2 with h2; injection h2 with h2; omega
      have hq6 : q0 < w6.heap.size := by
        obtain ⟨_, _, _, ⟨h2, _⟩ | ⟨q', off', h2, h3, _⟩⟩ := hr6.out
        · simp at h2
        · injection h2 with h2; injection h2 with h2; omega
      have hm256 : m ≤ 256 := by
        obtain ⟨⟨p, t, hp, ht⟩, _⟩ := Frm.chk_parts hk
        rw [hp] at hlen
        simp at hlen
        omega
      obtain ⟨base, hbase⟩ : ∃ b, putL [3] [hi0, a.d, (m : Int) - 1] = b := ⟨_, rfl⟩
      have hbl := putL_len [hi0, a.d, (m : Int) - 1] [3]
      rw [hbase] at hbl hos8
      simp only [List.length_cons, List.length_nil] at hbl
      have hall : a.rs.all Frm.okR = true := (Frm.chk_parts hk).2.2.1
      have hFlt := hbF8.lt
      have hwlt : w.heap.size ≤ w1.heap.size := by omega
      replace hbX := Lib.hid hbX
      replace hbA8 := Lib.hid hbA8
      replace hb18 := Lib.hid hb18
      replace hb68 := Lib.hid hb68
      replace hbF8 := Lib.hid hbF8
      replace hbO8 := Lib.hid hbO8
      replace hos8 := Lib.hid hos8
      replace hr8 := Lib.hid hr8
      replace hlow8 := Lib.hid hlow8
      replace hbase := Lib.hid hbase
      replace hw8 := Lib.hid hw8
      clear hb8 hbA6 hbF6 hr6 hlow6 hb7 hb1 hbA7 hbO6 hos6
      go_wp2_with fail
      refine (wpIn_wide (n := 3)).1 ?_
      refine' wpIn_rangeFunc_ownH (F := Fence.wide) rfl (by omega) (gf := 57) (lb := #[.pointer (some ⟨w6.heap.size + 1, 0, none⟩)]) rfl trivial (enters_of Tryd.func57 (by kernel_rfl) rfl)
        (gaps_stops (3 - 1) (w6.heap.size + 1) a (some ⟨q0, off0, none⟩) m c w8 (by omega) hm hall hbX.out hr8.out) Kg.trans (Kg.put (B := w8.heap.size) hXlt (fun x hx => by injection hx with hx; subst hx; exact hq8)) (Below.refl _ _) (fun _ => rfl)
        (BI (w1.heap.size + 1) w6.heap.size base w8) (fun _ _ _ => False) (BI.own _ _ _ _) (fun _ _ _ _ _ hs _ _ => hs)
        ⟨⟨_, hbO8.out, hos8.out⟩, hb18.out, Only.refl _ _⟩ (BAx w6.heap.size (w1.heap.size + 1 + 1) w8.heap.size) (fun x a' => BAx.own _ _ _ x a' _) ?assign ?body ?done ?stop
      case assign =>
        intro l pre x W9 K hI hK
        rw [zip2]
        gi_wp2
        exact hK _ _ ((KeepsOthers.alloc _ _).from _) (kg_alloc (Nat.lt_of_lt_of_le hXlt hI.only.size) (Nat.lt_of_lt_of_le hq8 hI.only.size) _)
          ⟨hI.out.elim fun v hv => ⟨v, hv.1.alloc _, hv.2.later (laterA (Below.refl _ _) _)⟩, hI.fst.alloc _, hI.only.trans (Only.of_below (laterA (Below.refl _ _) _))⟩ ⟨W9.heap.size, atB_mk rfl, Blk.new W9 _ _, hI.only.size⟩
      case body =>
        rintro l pre x a' W9 hl ⟨r, hr⟩ hI ⟨Bx, ⟨f, rfl⟩, hbx, hBx⟩ hlt
        obtain ⟨⟨v9, hbO9, hos9⟩, hb19, hon9⟩ := hI
        have hbF9 := hbF8.out.only hon9 (by rintro (h | h) <;> omega)
        have hlow9 := only_old hlow8.out hon9 (by rintro k (rfl | rfl) <;> omega) hlow8.out.size
        have hsl := seqW_len true pre
        have hpl := putL_len (seqW true pre) base
        obtain ⟨Dw, hDw⟩ : ∃ d, IntKind.i64.wrap (x.2.2 - x.2.1) = d := ⟨_, rfl⟩
        have hwd : wdW x = Dw := hDw
        have hxs := hon9.size
        have hO9 := hbO9.lt
        have n1 : w1.heap.size + 1 + 1 ≠ w6.heap.size := by omega
        have n2 : Bx ≠ w6.heap.size := by omega
        have n3 : w1.heap.size + 1 ≠ w6.heap.size := by omega
        have n4 : Bx ≠ w1.heap.size + 1 := by omega
        cases hpe : pre.isEmpty with
        | true =>
          rw [hpe] at hb19
          have hsn : putL base (seqW true (pre ++ [x])) = putL (putL base (seqW true pre)) [Dw] := by
            rw [seqW_snoc, hpe, putL_append, ← hwd]; rfl
          have y1 := hbF9.cell 0
          have y2 := hbx.cell 0
          have y3 := hbx.cell 1
          have y4 := hb19.cell 0
          have y5 := hb19.frozen 0
          simp at y1 y2 y3 y4
          have hoS : Only (fun k => k = w1.heap.size + 1 ∨ k = w6.heap.size) W9 (W9.setCell ⟨w6.heap.size, 0, none⟩ (.bool false)) := Only.set (F := fun k => k = w1.heap.size + 1 ∨ k = w6.heap.size) (p := ⟨w6.heap.size, 0, none⟩) (Only.refl _ _) (.inr rfl) _
          have hoS1 : Only (· = w6.heap.size) W9 (W9.setCell ⟨w6.heap.size, 0, none⟩ (.bool false)) := Only.set (F := (· = w6.heap.size)) (p := ⟨w6.heap.size, 0, none⟩) (Only.refl _ _) rfl _
          have hbOS := hbO9.only hoS1 n3
          have hosS := os_only1 hos9 hb19 hoS1
          have hb1S := hb19.set_ 0 (.bool false)
          have hlowS := only_old hlow9 hoS (by rintro k (rfl | rfl) <;> omega) hlow9.size
          have hszS : (W9.setCell ⟨w6.heap.size, 0, none⟩ (.bool false)).heap.size = W9.heap.size := by simp [World.setCell]
          have hWb := laterA (Below.refl (W9.setCell ⟨w6.heap.size, 0, none⟩ (.bool false)).heap.size (W9.setCell ⟨w6.heap.size, 0, none⟩ (.bool false))) (.cells #[.int .i64 Dw] 3)
          have hPb := put1_any w hL (w1.heap.size + 1) W9.heap.size 0 1 [Dw] (putL base (seqW true pre)) v9 _ (old_later2 hlowS hWb hlowS.size) (by omega) (hbOS.later hWb) (hosS.later hWb) (by rw [World.size_alloc, hszS]; omega) (by have := hbO9.lt; omega) (by have := one_at (Blk.new (W9.setCell ⟨w6.heap.size, 0, none⟩ (.bool false)) 3 #[.int .i64 Dw]); rw [hszS] at this; exact this) (by simp) (by omega)
          simp only [List.length_cons, List.length_nil, Nat.zero_add] at hPb
          replace hbOS := Lib.hid hbOS
          replace hosS := Lib.hid hosS
          replace hb1S := Lib.hid hb1S
          replace hlowS := Lib.hid hlowS
          replace hPb := Lib.hid hPb
          replace hWb := Lib.hid hWb
          replace hoS := Lib.hid hoS
          replace hsn := Lib.hid hsn
          gi_wp2
          refine ⟨trivial, ?_⟩
          refine (CallsIn.inRound l (callsIn_wide.2 hPb.out)).mono ?_
          rintro e w11 ⟨⟨r11, rfl⟩, v11, hbO11, hos11, hon11⟩
          have hoT : Only (fun k => k = w1.heap.size + 1 ∨ k = w6.heap.size) W9 w11 := ((Only.refl _ W9).trans (hoS.out.trans (Only.of_below hWb.out))).trans (hon11.mono (fun k hk => .inl hk))
          have hb111 := (hb1S.out.later hWb.out).only hon11 (by omega)
          gi_wp2
          refine ⟨keeps_only hoT (by rintro k (rfl | rfl) <;> omega), kg_only hoT (by omega) (by omega) (by omega) (by omega), ⟨⟨v11, hbO11, ?_⟩, ?_, hon9.trans hoT⟩⟩
          · rw [hsn.out]; exact hos11
          · rw [show (pre ++ [x]).isEmpty = false by cases pre <;> rfl]; exact hb111
        | false =>
          rw [hpe] at hb19
          have hsn : putL base (seqW true (pre ++ [x])) = putL (putL (putL base (seqW true pre)) [x.1]) [Dw] := by
            rw [seqW_snoc, hpe, putL_append, ← hwd]; rfl
          have y1 := hbF9.cell 0
          have y4 := hb19.cell 0
          simp at y1 y4
          have hWa := laterA (Below.refl W9.heap.size W9) (.cells #[.int .i64 x.1] 3)
          have hPa := put1_any w hL (w1.heap.size + 1) W9.heap.size 0 1 [x.1] (putL base (seqW true pre)) v9 _ (old_later2 hlow9 hWa hlow9.size) (by omega) (hbO9.later hWa) (hos9.later hWa) (by simp) (by omega) (one_at (Blk.new W9 3 #[.int .i64 x.1])) (by simp) (by omega)
          simp only [List.length_cons, List.length_nil, Nat.zero_add] at hPa
          replace hbO9 := Lib.hid hbO9
          replace hos9 := Lib.hid hos9
          replace hb19 := Lib.hid hb19
          replace hbF9 := Lib.hid hbF9
          replace hlow9 := Lib.hid hlow9
          replace hPa := Lib.hid hPa
          replace hbx := Lib.hid hbx
          replace hWa := Lib.hid hWa
          replace hon9 := Lib.hid hon9
          replace hsn := Lib.hid hsn
          gi_wp2
          refine ⟨trivial, ?_⟩
          refine (CallsIn.inRound l (callsIn_wide.2 hPa.out)).mono ?_
          rintro e w10 ⟨⟨r10, rfl⟩, v10, hbO10, hos10, hon10⟩
          have hpl2 := putL_len [x.1] (putL base (seqW true pre))
          simp only [List.length_cons, List.length_nil] at hpl2
          have ho10 : Only (fun k => k = w1.heap.size + 1 ∨ k = w6.heap.size) W9 w10 := (Only.of_below hWa.out).trans (hon10.mono (fun k hk => .inl hk))
          have hb110 := (hb19.out.later hWa.out).only hon10 (by omega)
          have hbF10 := (hbF9.out.later hWa.out).only hon10 (by omega)
          have hbx10 := (hbx.out.later hWa.out).only hon10 n4
          have hlow10 := only_old hlow9.out ho10 (by rintro k (rfl | rfl) <;> omega) hlow9.out.size
          clear y1 y4 hPa
          replace hbx := hbx10
          have y1 := hbF10.cell 0
          have y2 := hbx.cell 0
          have y3 := hbx.cell 1
          have y4 := hb110.cell 0
          have y5 := hb110.frozen 0
          simp at y1 y2 y3 y4
          replace hsn := hsn.out
          replace hon9 := hon9.out
          have hoS : Only (fun k => k = w1.heap.size + 1 ∨ k = w6.heap.size) w10 (w10.setCell ⟨w6.heap.size, 0, none⟩ (.bool false)) := Only.set (F := fun k => k = w1.heap.size + 1 ∨ k = w6.heap.size) (p := ⟨w6.heap.size, 0, none⟩) (Only.refl _ _) (.inr rfl) _
          have hoS1 : Only (· = w6.heap.size) w10 (w10.setCell ⟨w6.heap.size, 0, none⟩ (.bool false)) := Only.set (F := (· = w6.heap.size)) (p := ⟨w6.heap.size, 0, none⟩) (Only.refl _ _) rfl _
          have hbOS := hbO10.only hoS1 n3
          have hosS := os_only1 hos10 hb110 hoS1
          have hb1S := hb110.set_ 0 (.bool false)
          have hlowS := only_old hlow10 hoS (by rintro k (rfl | rfl) <;> omega) hlow10.size
          have hszS : (w10.setCell ⟨w6.heap.size, 0, none⟩ (.bool false)).heap.size = w10.heap.size := by simp [World.setCell]
          have hWb := laterA (Below.refl (w10.setCell ⟨w6.heap.size, 0, none⟩ (.bool false)).heap.size (w10.setCell ⟨w6.heap.size, 0, none⟩ (.bool false))) (.cells #[.int .i64 Dw] 3)
          have hPb := put1_any w hL (w1.heap.size + 1) w10.heap.size 0 1 [Dw] (putL (putL base (seqW true pre)) [x.1]) v10 _ (old_later2 hlowS hWb hlowS.size) (by omega) (hbOS.later hWb) (hosS.later hWb) (by rw [World.size_alloc, hszS]; omega) (by have := hbO10.lt; omega) (by have := one_at (Blk.new (w10.setCell ⟨w6.heap.size, 0, none⟩ (.bool false)) 3 #[.int .i64 Dw]); rw [hszS] at this; exact this) (by simp) (by omega)
          simp only [List.length_cons, List.length_nil, Nat.zero_add] at hPb
          replace hbOS := Lib.hid hbOS
          replace hosS := Lib.hid hosS
          replace hb1S := Lib.hid hb1S
          replace hlowS := Lib.hid hlowS
          replace hPb := Lib.hid hPb
          replace hWb := Lib.hid hWb
          replace hoS := Lib.hid hoS
          replace hsn := Lib.hid hsn
          gi_wp2
          refine ⟨trivial, ?_⟩
          refine (CallsIn.inRound l (callsIn_wide.2 hPb.out)).mono ?_
          rintro e w11 ⟨⟨r11, rfl⟩, v11, hbO11, hos11, hon11⟩
          have hoT : Only (fun k => k = w1.heap.size + 1 ∨ k = w6.heap.size) W9 w11 := (ho10.trans (hoS.out.trans (Only.of_below hWb.out))).trans (hon11.mono (fun k hk => .inl hk))
          have hb111 := (hb1S.out.later hWb.out).only hon11 (by omega)
          gi_wp2
          refine ⟨keeps_only hoT (by rintro k (rfl | rfl) <;> omega), kg_only hoT (by omega) (by omega) (by omega) (by omega), ⟨⟨v11, hbO11, ?_⟩, ?_, hon9.trans hoT⟩⟩
          · rw [hsn.out]; exact hos11
          · rw [show (pre ++ [x]).isEmpty = false by cases pre <;> rfl]; exact hb111
      case done =>
        rintro D ys W9 hD rfl ⟨⟨v9, hbO9, hos9⟩, hb19, hon9⟩ hK
        have hbF9 := hbF8.out.only hon9 (by rintro (h | h) <;> omega)
        have hbA9 := hbA8.out.only hon9 (by rintro (h | h) <;> omega)
        have hlow9 := only_old hlow8.out hon9 (by rintro k (rfl | rfl) <;> omega) hlow8.out.size
        have hfin := bytes_putL hk m hlen
        rw [hY.out, hmk.out, hrs.out, ← hrs.out] at hfin
        have hY2 : Y.2 = 0 := by rw [← hY.out]; unfold Frm.bytes; rw [hk]; rfl
        have hhd : (a.rs.headD (0, 0)).2 = hi0 := by rw [hrs.out]; rfl
        rw [hhd] at hfin
        have c2 := hbA9.cell 2
        have k1 := hbF9.cell 0
        have o0 := hbO9.cell 0
        simp at c2 k1 o0
        rw [hmk.out] at c2
        have hsl := seqW_len true (gpn a.rs m)
        rw [gpn_length] at hsl
        have hpl := putL_len (seqW true (gpn a.rs m)) base
        simp only [if_true] at hfin
        rw [hbase.out] at hfin
        have hlD : w.heap.size ≤ D := Nat.le_trans hlow8.out.size hD
        have hc3 := hbA9.cell 3
        have hc4 := hbA9.cell 4
        have hc5 := hbA9.cell 5
        simp at hc3 hc4 hc5
        have h3 : ∀ k (hk : k < [a.e0, a.e1, a.e2].length), W9.drew.cell? ⟨w.heap.size, 3 + k, none⟩ = some (.int .i64 [a.e0, a.e1, a.e2][k]) := by
          intro k hk
          have hk3 : k = 0 ∨ k = 1 ∨ k = 2 := by simp at hk; omega
          rcases hk3 with rfl | rfl | rfl
          · exact hc3
          · exact hc4
          · exact hc5
        have hO9 := hbO9.lt
        have hPc := put1_any w hL (w1.heap.size + 1) w.heap.size 3 3 [a.e0, a.e1, a.e2] (putL base (seqW true (gpn a.rs m))) v9 W9.drew (laterD_ hlow9) (by omega) hbO9.drew (hos9.later (laterD_ (Below.refl _ _))) hbA9.lt (by omega) h3 (by simp) (by omega)
        simp only [List.length_cons, List.length_nil, Nat.reduceAdd, Nat.zero_add] at hPc
        rw [hfin] at hPc
        have hDn : D ≠ w1.heap.size + 1 := by omega
        have hAn : ¬ w1.heap.size + 1 + 1 = w1.heap.size + 1 := by omega
        replace hos9 := Lib.hid hos9
        replace hbO9 := Lib.hid hbO9
        replace hb19 := Lib.hid hb19
        replace hon9 := Lib.hid hon9
        replace hK := Lib.hid hK
        replace hlow9 := Lib.hid hlow9
        replace hfin := Lib.hid hfin
        replace hY2 := Lib.hid hY2
        replace hlD := Lib.hid hlD
        replace hPc := Lib.hid hPc
        replace hbF9 := Lib.hid hbF9
        replace hbA9 := Lib.hid hbA9
        go_wp2_with fail
        go_region_held3 (fun w' => w'.cell? ⟨w1.heap.size + 1 + 1, 0, none⟩ = some (.func (.func 35) #[] #[.pointer (some ⟨w1.heap.size + 1, 0, none⟩)])) (first | exact k1 | exact j1) (first | (go_at_call 35; (with_reducible refine hPc.out.mono ?_); rintro e w12 ⟨⟨r12, rfl⟩, v12, hbO12, hos12, hon12⟩; have j1 := cell_only hon12 hAn k1; have hn12 := Lib.hid hon12; replace hbO12 := Lib.hid hbO12; replace hos12 := Lib.hid hos12; clear hon12))
        have hK12 : w12.heap[D]? = some (.deferred (some [])) := (hn12.out.block D (Array.getElem?_eq_some_iff.1 hK.out).1 hDn).trans hK.out
        have hlow12 := only_old (laterD_ hlow9.out) hn12.out (by rintro i rfl; omega) hlow9.out.size
        have o12 := hbO12.out.cell 0
        simp at o12
        obtain ⟨g, A9, c9, rfl, hsl9, hg9⟩ := hos12.out
        replace hsl9 := Lib.hid hsl9
        replace hlow12 := Lib.hid hlow12
        replace hK12 := Lib.hid hK12
        go_wp2_with fail
        refine bodyM_ret1 rfl hK12.out (results_tmp2 rfl _ _) ?_
        have hsf := sl_own hsl9.out (grownBy_putObj' w12 D (.deferred none)) (fun r e => by cases e; exact ⟨_, hK12.out, rfl⟩)
        refine ⟨g, A9, c9, ?_, hsf, below_put hlow12.out hlD.out _⟩
        rw [hY2.out]
        rfl
      case stop =>
        rintro D c pre W9 _ _ h _
        exact h.elim
end Go.Proofs.YtpagdcobhbkabaaDoor
