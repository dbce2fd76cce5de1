/-
  The laws of layer 13: BucketBound.
-/
import Derived.Test.YtniiemmgcjkphaaBktR
import Derived.Test.YtniiemmgcjkphaaBktK
import Derived.Test.YtniiemmgcjkphaaPac
import Derived.Deep.RegionHeld3
import Derived.Deep.AppendLies
import Derived.Laws.OwnMore
import Derived.OwnWalk
namespace Go.Proofs.Ytniiemmgcjkphaa
open Go.RowKit Go.Sort

/-- A slice of integers of the call's own. -/
def Own (w : World) (B : Nat) (v : Value) (l : List Int) : Prop := w.ownsRow B 3 1 v l.length (l.map (Value.int .i64))
theorem Own.nil (w : World) (B : Nat) : Own w B (.slice none 0 0) [] := World.ownsRow_nil w B _ _
theorem grown_of_low {a b : World} (h : Below a.heap.size a b) (row : Option Nat) : a.grownBy b row := ⟨h.os, h.tape, h.output, h.size, fun k hk _ => h.block k hk⟩
theorem Own.later {w w' : World} {B : Nat} {v : Value} {l : List Int} (h : Own w B v l) (hb : Below w.heap.size w w') : Own w' B v l :=
  World.ownsRow.kept h (grown_of_low hb none) (by cases v.ownBlock <;> simp)
theorem Own.grown {w w' : World} {B : Nat} {v : Value} {l : List Int} {row : Option Nat} (h : Own w B v l) (hg : w.grownBy w' row) (hne : v.ownBlock = none ∨ v.ownBlock ≠ row) : Own w' B v l := World.ownsRow.kept h hg hne
theorem Own.drew {w : World} {B : Nat} {v : Value} {l : List Int} (h : Own w B v l) : Own w.drew B v l := h
theorem Own.ne {w : World} {B : Nat} {v : Value} {l : List Int} {g : Nat} {t : TypeId} {cs : Array Value} (h : Own w B v l) (hg : Blk w g t cs) (hne : 3 ≠ t) : v.ownBlock ≠ some g := by
  rcases h.2 with ⟨rfl, _⟩ | ⟨g', cap, cur, rfl, _, hh, _⟩
  · simp [Value.ownBlock]
  · intro he
    have : g' = g := by simpa [Value.ownBlock] using he
    subst this
    exact Blk.ne_ (t := 3) hh hg hne rfl
theorem Own.cell {w : World} {B : Nat} {v : Value} {l : List Int} (h : Own w B v l) (hl : 0 < l.length) : ∃ g cap, v = .slice (some ⟨g, 0, none⟩) l.length cap ∧ ∀ k (hk : k < l.length), w.cell? ⟨g, k, none⟩ = some (.int .i64 l[k]) := by
  obtain ⟨g, cap, rfl, _, _⟩ := World.ownsRow.form h hl
  refine ⟨g, cap, rfl, fun k hk => ?_⟩
  rw [World.ownsRow.cellAt h k (by omega)]
  simp [hk]

theorem Rd.at3 {w : World} {A : Option Addr} {n : Nat} {f : Nat → Nat → Int} (h : Rd w A 3 n f) {k : Nat} (hk : k < n) :
    ∃ b off, A = some ⟨b, off, none⟩ ∧ ∀ wx, Below w.heap.size w wx → wx.cell? ⟨b, off + k * 3, none⟩ = some (.int .i64 (f k 0)) ∧ wx.cell? ⟨b, off + k * 3 + 1, none⟩ = some (.int .i64 (f k 1)) ∧ wx.cell? ⟨b, off + k * 3 + 2, none⟩ = some (.int .i64 (f k 2)) := by
  obtain ⟨b, off, rfl, hb, hc⟩ := h (by omega)
  have g : ∀ wx, Below w.heap.size w wx → ∀ j, j < 3 → wx.cell? ⟨b, off + k * 3 + j, none⟩ = some (.int .i64 (f k j)) := fun wx hx j hj => by
    have := (hx.cell (p := ⟨b, _, none⟩) hb).trans (hc k hk j hj)
    rwa [show off + (k * 3 + j) = off + k * 3 + j by omega] at this
  exact ⟨b, off, rfl, fun wx hx => ⟨g wx hx 0 (by omega), g wx hx 1 (by omega), g wx hx 2 (by omega)⟩⟩

theorem all_snoc {l : List Int} {y : Int} {P : Int → Prop} (h : ∀ x ∈ l, P x) (hy : P y) : ∀ x ∈ l ++ [y], P x := fun x hx => by
  rcases List.mem_append.1 hx with h1 | h1
  · exact h x h1
  · rw [List.mem_singleton.1 h1]; exact hy

theorem int_info : (Try.prog.info? 3).map (fun i => (i.zero, i.size, i.bytes)) = some (some (.int .i64 0), 1, 8) := by kernel_rfl

/-- Two slices of the call's own lie in different blocks. -/
def Ap (v u : Value) : Prop := ∀ g, v.ownBlock = some g → u.ownBlock ≠ some g
theorem Ap.symm {v u : Value} (h : Ap v u) : Ap u v := fun g hg hv => h g hv hg
theorem Ap.or {v u : Value} (h : Ap v u) : v.ownBlock = none ∨ v.ownBlock ≠ u.ownBlock := by
  cases hv : v.ownBlock with
  | none => exact .inl rfl
  | some g => exact .inr (fun e => h g hv e.symm)
theorem Ap.nil (u : Value) : Ap (.slice none 0 0) u := fun g h => by simp [Value.ownBlock] at h
theorem Ap.step {w : World} {B : Nat} {v v' u : Value} {l : List Int} (h : Ap v u) (hu : Own w B u l) (hat : v'.ownBlock = v.ownBlock ∨ v'.ownBlock = some w.heap.size) : Ap v' u := by
  intro g hg hug
  have hlt := (World.ownsRow.lt hu g hug).2
  rcases hat with e | e
  · exact h g (e ▸ hg) hug
  · rw [e] at hg
    injection hg with hg
    omega
theorem Own.alloc {w : World} {B : Nat} {v : Value} {l : List Int} (h : Own w B v l) (o : Obj) : Own (w.alloc o) B v l := World.ownsRow.alloc h o
theorem Blk.grown {w w' : World} {g : Nat} {t : TypeId} {cs : Array Value} {row : Option Nat} (h : Blk w g t cs) (hb : w.grownBy w' row) (hg : row ≠ some g) : Blk w' g t cs := (hb.block g h.lt (fun e => hg e.symm)).trans h
theorem Own.old {w : World} {B : Nat} {v : Value} {l : List Int} (h : Own w B v l) {g : Nat} (hg : w.heap.size ≤ g) : v.ownBlock ≠ some g := fun e => by have := (World.ownsRow.lt h g e).2; omega
def Rows2 (v u : Value) (g : Nat) : Prop := v.ownBlock = some g ∨ u.ownBlock = some g
theorem Only.row {v u x : Value} {w w' : World} (h : w.grownBy w' x.ownBlock) (hx : ∀ g, x.ownBlock = some g → Rows2 v u g) : Only (Rows2 v u) w w' :=
  ⟨h.os, h.tape, h.output, h.size, fun k hk hn => h.block k hk (fun e => hn (hx k e.symm))⟩
/-- An append of one number, at a step of a region that draws its order. -/
theorem step_own {ops : Array Oper} {o : Oper} {a : Act} {K : Act → World → Prop} {Q : Exit → Act → World → Prop} {E : Prop} {w : World} (hgd : o.guard = none) (s x : Operand)
    (ho : o.op = .call { callee := .builtin .append, args := #[s, x], argTypes := #[23, 23] }) {B : Nat} {v : Value} {l : List Int} {h : Nat} {y : Int} (hs : a.eval s = v) (hx : a.eval x = .slice (some ⟨h, 0, none⟩) 1 1)
    (hown : Own w B v l) (hblk : Blk w h 3 #[.int .i64 y]) (hB : B ≤ w.heap.size) (hlen : l.length < 100)
    (hK : ∀ v' w', Own w' B v' (l ++ [y]) → w.grownBy w' v.ownBlock → (v'.ownBlock = v.ownBlock ∨ v'.ownBlock = some w.heap.size) → K (a.put o.dst v') w') :
    if Region.wanted o (yielded ops a.tmps) = true then Oper.wp Try.prog o a w K Q else E := by
  obtain ⟨i0, hi, hz0, hz1, hz2⟩ := info_parts int_info
  refine step_append_lies w hgd s x 23 ho B 3 i0 _ 1 8 Try.underlying23 hi hz0 hz1 hz2 rfl (by omega) v l.length _ hs hown ⟨h, 0, none⟩ 1 1 [.int .i64 y] hx rfl (World.news_of_block hblk) (by simp [Value.oneCell']) (by omega) (by unfold maxLen; omega) (by omega) hB w.heap.size rfl ?_
  intro g cap w' h1 h2 h3 _
  refine hK _ w' ?_ h2 ?_
  · unfold Own
    simpa using h1
  · rcases h3 with h3 | h3
    · exact .inl (by rw [h3]; rfl)
    · exact .inr (by subst h3; rfl)

set_option maxHeartbeats 4000000 in
set_option maxRecDepth 100000 in
theorem bbound_any (x0 x1 x2 x3 x4 x5 y : Int) (A : Option Addr) (n c : Nat) (f : Nat → Nat → Int) (w : World) (hn : n ≤ 9223372036854775807) (hr : Rd w A 3 n f) (hnc : n ≤ c) (_hc : c ≤ 9223372036854775807) :
    Calls Try.prog 4 #[.agg #[.int .i64 x0, .int .i64 x1, .int .i64 x2, .int .i64 x3, .int .i64 x4, .int .i64 x5], .int .i64 y, .slice A n c] w fun e w' => e = .returned (.bool true) ∧ Below w.heap.size w w' := by
  have HR := Lib.hid hr
  clear hr
  have hN := Lib.hid (bring_same y 1048576 (by omega) (by omega))
  have hN0 := Int.emod_nonneg y (show (1048576 : Int) ≠ 0 by omega)
  have hN1 := Int.emod_lt_of_pos y (show (0 : Int) < 1048576 by omega)
  generalize y % 1048576 = Z at *
  have hno : Bkt.newOk (1 + Z) 0 = true := by
    unfold Bkt.newOk
    rw [Bool.and_eq_true, decide_eq_true_eq, Sat.isN_iff]; omega
  obtain ⟨i0, hi, hz0, hz1, hz2⟩ := info_parts int_info
  obtain ⟨m, hm⟩ : ∃ m : Nat, min n 40 = m := ⟨_, rfl⟩
  have hmn : m ≤ n := by omega
  have hm40 : m ≤ 40 := by omega
  have hmin : min (n : Int) 40 = (m : Int) := by omega
  replace hi := Lib.hid hi
  replace hz0 := Lib.hid hz0
  replace hz1 := Lib.hid hz1
  replace hz2 := Lib.hid hz2
  go_enter Try.func4, Try.ntmps4
  go_wp2_with fail
  have hx := Blk.new w 37 #[.int .i64 x0, .int .i64 x1, .int .i64 x2, .int .i64 x3, .int .i64 x4, .int .i64 x5]
  have hb := laterA (Below.refl w.heap.size w) (.cells #[.int .i64 x0, .int .i64 x1, .int .i64 x2, .int .i64 x3, .int .i64 x4, .int .i64 x5] 37)
  generalize w.alloc _ = W at *
  replace hx := Lib.hid hx
  replace hb := Lib.hid hb
  refine (bworks_any _).mono ?_
  rintro e w1 ⟨rfl, hbm⟩
  replace hx := Lib.hid (hx.out.later hbm)
  replace hb := Lib.hid (later hb.out hbm)
  clear hbm
  go_wp2_with fail
  refine (hN.out _).mono ?_
  rintro e w2 ⟨rfl, rfl⟩
  go_wp2_with fail
  refine (bnew_ok (1 + Z) 0 _ hno).mono ?_
  rintro e w2 ⟨rfl, hl, hbm⟩
  have hL : w.heap.size ≤ w1.heap.size := hb.out.size
  have n1 : w.heap.size ≠ w1.heap.size := by have := hx.out.lt; omega
  replace hl := Lib.hid hl
  replace hx := Lib.hid (hx.out.later hbm)
  replace hb := Lib.hid (later hb.out hbm)
  clear hbm
  generalize w1.heap.size = L at *
  go_wp2_with fail
  -- LOOP1
  go_loopw [10, 11, 12, 13] (fun a v1 v2 i wr => ∃ (j : Nat) (T : Int) (s : Bkt.St) (tk ml : List Int), a = .int .i64 T ∧ i = .int .i64 j ∧ j ≤ m ∧ tk.length = j ∧ 0 ≤ T ∧ T ≤ 268435456 * (j : Int) ∧ s.t = T ∧ s.B = 1 + Z ∧ Bkt.wf s ∧ Bkt.Inv (1 + Z) tk ml s.n ∧ (∀ x ∈ tk, 0 ≤ x ∧ x ≤ 9007199254740992) ∧ (∀ x ∈ ml, 0 ≤ x ∧ x ≤ 9007199254740992) ∧ Own wr w.heap.size v1 tk ∧ Own wr w.heap.size v2 ml ∧ Ap v1 v2 ∧ Bk wr L s ∧ Blk wr w.heap.size 37 #[.int .i64 x0, .int .i64 x1, .int .i64 x2, .int .i64 x3, .int .i64 x4, .int .i64 x5] ∧ Below w.heap.size w wr) (fun _ _ _ i _ => m - (intOf i).toNat)
  case atStart => exact ⟨0, 0, _, [], [], rfl, rfl, by omega, rfl, by omega, by omega, rfl, rfl, Bkt.wf_start hno, Bkt.inv_nil (by simp [Bkt.start]; omega) (by simp [Bkt.start]), by simp, by simp, Own.nil _ _, Own.nil _ _, Ap.nil _, hl.out, hx.out, hb.out⟩
  case round =>
    obtain ⟨j, T, s, tk, ml, rfl, rfl, hj, htk, hT0, hT1, hst, hsB, hv, hI, hbt, hbm, own1, own2, hap, hl, hx, hb⟩ := hrel
    replace hst := Lib.hid hst
    replace hsB := Lib.hid hsB
    replace hv := Lib.hid hv
    replace hI := Lib.hid hI
    replace hbt := Lib.hid hbt
    replace hbm := Lib.hid hbm
    replace own1 := Lib.hid own1
    replace own2 := Lib.hid own2
    replace hap := Lib.hid hap
    replace hl := Lib.hid hl
    replace hx := Lib.hid hx
    replace hb := Lib.hid hb
    replace htk := Lib.hid htk
    by_cases hlt : j < m
    · have hlt2 : j < n := by omega
      obtain ⟨ba, off, rfl, hca⟩ := HR.out.at3 hlt2
      have hA := Lib.hid (bring_same (f j 1) 3 (by omega) (by omega))
      have hD := Lib.hid (bring_same (f j 0) 268435456 (by omega) (by omega))
      have hM := Lib.hid (bring_same (f j 2) (1 + Z + 1) (by omega) (by omega))
      have k0 := Int.emod_nonneg (f j 1) (show (3 : Int) ≠ 0 by omega)
      have k1 := Int.emod_lt_of_pos (f j 1) (show (0 : Int) < 3 by omega)
      have d0 := Int.emod_nonneg (f j 0) (show (268435456 : Int) ≠ 0 by omega)
      have d1 := Int.emod_lt_of_pos (f j 0) (show (0 : Int) < 268435456 by omega)
      have q0 := Int.emod_nonneg (f j 2) (show 1 + Z + 1 ≠ 0 by omega)
      have q1 := Int.emod_lt_of_pos (f j 2) (show 0 < 1 + Z + 1 by omega)
      obtain ⟨y0, y1, y2⟩ := hca _ hb.out
      replace hca := Lib.hid hca
      generalize f j 0 = u0 at *
      generalize f j 1 = u1 at *
      generalize f j 2 = u2 at *
      generalize u0 % 268435456 = d at *
      generalize u2 % (1 + Z + 1) = q at *
      obtain ⟨K, hK⟩ := Int.eq_ofNat_of_zero_le k0
      rw [hK] at hA
      have hK3 : K < 3 := by omega
      clear k0 k1 hK
      obtain ⟨p0, p1, hp⟩ : ∃ p0 p1 : Int, ∀ wx, Blk wx w.heap.size 37 #[.int .i64 x0, .int .i64 x1, .int .i64 x2, .int .i64 x3, .int .i64 x4, .int .i64 x5] → wx.cell? ⟨w.heap.size, K * 2, none⟩ = some (.int .i64 p0) ∧ wx.cell? ⟨w.heap.size, K * 2 + 1, none⟩ = some (.int .i64 p1) := by
        rcases (by omega : K = 0 ∨ K = 1 ∨ K = 2) with rfl | rfl | rfl
        · exact ⟨x0, x1, fun wx h => ⟨h.cell 0, h.cell 1⟩⟩
        · exact ⟨x2, x3, fun wx h => ⟨h.cell 2, h.cell 3⟩⟩
        · exact ⟨x4, x5, fun wx h => ⟨h.cell 4, h.cell 5⟩⟩
      obtain ⟨g0, g1⟩ := hp _ hx.out
      clear hp
      go_wp2_with fail
      refine (hA.out _).mono ?_
      rintro e w3 ⟨rfl, rfl⟩
      go_wp2_with fail
      -- RATE
      have hT := rate_any p0 p1
      have hX0 := Int.emod_nonneg p0 (show (16777216 : Int) ≠ 0 by omega)
      have hX1 := Int.emod_lt_of_pos p0 (show (0 : Int) < 16777216 by omega)
      have hY0 := Int.emod_nonneg p1 (show (1073741824 : Int) ≠ 0 by omega)
      have hY1 := Int.emod_lt_of_pos p1 (show (0 : Int) < 1073741824 by omega)
      generalize p0 % 16777216 = num at *
      obtain ⟨den, hden⟩ : ∃ den, 1 + p1 % 1073741824 = den := ⟨_, rfl⟩
      rw [hden] at hT
      have hd0 : 1 ≤ den := by omega
      have hd1 : den ≤ 1073741824 := by omega
      clear hden hY0 hY1
      refine (hT _).mono ?_
      rintro e w3 ⟨rfl, hbm2⟩
      have hbA := laterA hbm2 (.cells #[.int .i64 num, .int .i64 den] 25)
      replace hl := Lib.hid (hl.out.kept hbA)
      replace hx := Lib.hid (hx.out.later hbA)
      replace own1 := Lib.hid (own1.out.later hbA)
      replace own2 := Lib.hid (own2.out.later hbA)
      have hbB := old_later hb.out hbA hb.out.size
      have hr := Blk.new w3 25 #[.int .i64 num, .int .i64 den]
      clear g0 g1 y0 y1 y2 hbm2 hbA hT
      replace hb := Lib.hid hbB
      obtain ⟨y0, y1, y2⟩ := hca.out _ hbB
      clear hbB
      replace hr := Lib.hid hr
      go_wp2_with fail
      generalize w3.alloc _ = w4 at *
      generalize w3.heap.size = R at *
      refine (hD.out _).mono ?_
      rintro e w5 ⟨rfl, rfl⟩
      have hmay : Bkt.may num den = true := by rw [Bkt.may_iff]; omega
      have hst' := hst.out
      have hsB' := hsB.out
      have hfe := Bkt.fillE_ok (s := s) (t := T + d) (by omega) (by omega) (by omega) hmay
      have hfs := Bkt.fillS_of (s := s) (t := T + d) hmay (by omega) (by omega) (by omega)
      have hv2 := Bkt.wf_fillS hv.out (T + d) num den
      rw [hfs] at hv2
      have hup := Bkt.fill_up hv.out (t := T + d) (num := num) hd0
      rw [hst', hsB', show T + d - T = d by omega] at hup
      have q5 := Bkt.fill_t s (T + d) num den
      have q6 := (Bkt.fill_B s (T + d) num den).trans hsB'
      have q7 := hv2.n0
      generalize Bkt.fill s (T + d) num den = S2 at *
      obtain ⟨X, hX⟩ : ∃ X, d * num = X := ⟨_, rfl⟩
      have x0' : 0 ≤ X := by rw [← hX]; exact Int.mul_nonneg (by omega) (by omega)
      have x1' : X ≤ 268435456 * 16777216 := by rw [← hX]; exact Int.mul_le_mul (by omega) (by omega) (by omega) (by omega)
      obtain ⟨Y, hY⟩ : ∃ Y, (X + den - 1) / den = Y := ⟨_, rfl⟩
      have yy0 : 0 ≤ Y := by rw [← hY]; exact Int.ediv_nonneg (by omega) (by omega)
      have yy1 : Y ≤ X + den - 1 := by rw [← hY]; exact Int.ediv_le_self _ (by omega)
      rw [hX, hY] at hup
      obtain ⟨hup1, hup2⟩ := hup
      have e1 : IntKind.i64.wrap (d * num) = X := by rw [hX]; exact IntWalk.i64_in _ (by omega)
      have e2 : IntKind.i64.wrap (X + den) = X + den := IntWalk.i64_in _ (by omega)
      have e3 : IntKind.i64.wrap (X + den - 1) = X + den - 1 := IntWalk.i64_in _ (by omega)
      have e4 : IntKind.i64.wrap ((X + den - 1).tdiv den) = Y := by rw [Int.tdiv_eq_ediv_of_nonneg (by omega), hY]; exact IntWalk.i64_in _ (by omega)
      have e5 : ¬ den = 0 := by omega
      replace e1 := Lib.hid e1
      replace e2 := Lib.hid e2
      replace e3 := Lib.hid e3
      replace e4 := Lib.hid e4
      replace hfe := Lib.hid hfe
      replace hfs := Lib.hid hfs
      replace hv2 := Lib.hid hv2
      replace q5 := Lib.hid q5
      replace q6 := Lib.hid q6
      replace hX := Lib.hid hX
      replace hY := Lib.hid hY
      clear hst' hsB' hmay
      have r0 := hr.out.cell 0
      have r1 := hr.out.cell 1
      simp at r0 r1
      go_wp2_with fail
      refine (fill_to L s (T + d) num den 0 S2 _ hl.out hv.out hfe.out hfs.out).mono ?_
      rintro e w5 ⟨rfl, hl5, ho⟩
      have nR : R ≠ L := Blk.ne_ hr.out hl.out (by decide)
      replace own1 := Lib.hid (own1.out.grown ho (.inr (own1.out.ne hl.out (by decide))))
      replace own2 := Lib.hid (own2.out.grown ho (.inr (own2.out.ne hl.out (by decide))))
      replace hl := Lib.hid hl5
      replace hr := Lib.hid (hr.out.one ho nR)
      replace hx := Lib.hid (hx.out.one ho n1)
      have hbB := one_old hb.out ho hL hb.out.size
      replace hb := Lib.hid hbB
      clear ho hl5 r0 r1 y0 y1 y2
      obtain ⟨y0, y1, y2⟩ := hca.out _ hbB
      clear hbB
      go_wp2_with fail
      refine (hM.out _).mono ?_
      rintro e w6 ⟨rfl, rfl⟩
      by_cases hq : S2.n < q
      · have g1 : ¬ S2.n < S2.n := by omega
        have q0' : 0 ≤ S2.n := q7
        have hE4 : Bkt.takeE S2 q = 5 := by unfold Bkt.takeE; rw [if_neg (by omega), if_pos hq]
        have hS4 : Bkt.takeS S2 q = S2 := by unfold Bkt.takeS; rw [if_neg (by omega)]
        have hS3 : Bkt.takeS S2 S2.n = { S2 with n := S2.n - S2.n } := by unfold Bkt.takeS Bkt.takeE; rw [if_neg (show ¬ S2.n < 0 by omega), if_neg g1]; rfl
        have hE3 : Bkt.takeE S2 S2.n = 0 := by unfold Bkt.takeE; rw [if_neg (by omega), if_neg g1]
        have hv3 := Bkt.wf_takeS hv2.out S2.n
        have hI3 := Bkt.inv_step hI.out hup2 hup1 q0' (Int.le_refl _)
        rw [hS3] at hv3
        replace hS3 := Lib.hid hS3
        replace hE3 := Lib.hid hE3
        replace hv3 := Lib.hid hv3
        replace hI3 := Lib.hid hI3
        replace hS4 := Lib.hid hS4
        replace hE4 := Lib.hid hE4
        go_wp2_with fail
        refine (tokens_any L S2 _ hl.out hv2.out).mono ?_
        rintro e w7 ⟨rfl, rfl⟩
        go_wp2_with fail
        refine (take_to L S2 q 5 _ _ hl.out hv2.out hE4.out hS4.out).mono ?_
        rintro e wk ⟨rfl, hl7, ho⟩
        replace own1 := Lib.hid (own1.out.grown ho (.inr (own1.out.ne hl.out (by decide))))
        replace own2 := Lib.hid (own2.out.grown ho (.inr (own2.out.ne hl.out (by decide))))
        replace hl := Lib.hid hl7
        replace hr := Lib.hid (hr.out.one ho nR)
        replace hx := Lib.hid (hx.out.one ho n1)
        replace hb := Lib.hid (one_old hb.out ho hL hb.out.size)
        clear ho hl7
        go_wp2_with fail
        refine (tokens_any L S2 _ hl.out hv2.out).mono ?_
        rintro e w8 ⟨rfl, rfl⟩
        go_wp2_with fail
        refine (take_to L S2 S2.n 0 _ _ hl.out hv2.out hE3.out hS3.out).mono ?_
        rintro e wl ⟨rfl, hl7, ho⟩
        replace own1 := Lib.hid (own1.out.grown ho (.inr (own1.out.ne hl.out (by decide))))
        replace own2 := Lib.hid (own2.out.grown ho (.inr (own2.out.ne hl.out (by decide))))
        replace hl := Lib.hid hl7
        replace hr := Lib.hid (hr.out.one ho nR)
        replace hx := Lib.hid (hx.out.one ho n1)
        replace hb := Lib.hid (one_old hb.out ho hL hb.out.size)
        clear ho hl7 y0 y1 y2
        replace e1 := e1.out
        replace e2 := e2.out
        replace e3 := e3.out
        replace e4 := e4.out
        have r0 := hr.out.cell 0
        have r1 := hr.out.cell 1
        simp at r0 r1
        have hlen := htk.out
        have hlen2 := hI.out.len
        go_wp2_with fail
        have hs0 : w.heap.size ≤ wl.heap.size := hb.out.size
        have nR2 : ¬ Rows2 u11 u12 R := by rintro (h | h); exact own1.out.ne hr.out (by decide) h; exact own2.out.ne hr.out (by decide) h
        have nL2 : ¬ Rows2 u11 u12 L := by rintro (h | h); exact own1.out.ne hl.out (by decide) h; exact own2.out.ne hl.out (by decide) h
        have nX2 : ¬ Rows2 u11 u12 w.heap.size := by rintro (h | h); exact own1.out.ne hx.out (by decide) h; exact own2.out.ne hx.out (by decide) h
        have nB2 : ∀ i, Rows2 u11 u12 i → w.heap.size ≤ i := by rintro i (h | h); exact (World.ownsRow.lt own1.out i h).1; exact (World.ownsRow.lt own2.out i h).1
        go_region_held3 (fun w' => w'.cell? ⟨R, 0, none⟩ = some (.int .i64 num) ∧ w'.cell? ⟨R, 1, none⟩ = some (.int .i64 den)) (first | exact ⟨r0, r1⟩ | exact ⟨kz0, kz1⟩ | exact ⟨ky0, ky1⟩ | go_keep) (first | (refine step_own (B := w.heap.size) (v := u11) (l := tk) (h := wl.heap.size) (y := S2.n) (by rfl) _ _ (by rfl) (by rfl) (by rfl) ?_ ?_ ?_ ?_ ?_; exact (own1.out.alloc _).drew; exact (Blk.new _ _ _).drew; exact (Nat.le_trans hs0 (laterD (laterA (Below.refl _ _) _)).size); omega; intro v1' wz ownF hg hat; have ownO := Lib.hid (Own.grown ((own2.out.alloc _).drew) hg (hap.out.symm).or); have hap' := Lib.hid (Ap.step hap.out ((own2.out.alloc _).drew) hat); have ho := (Only.of_below (F := Rows2 u11 u12) (laterD (laterA (Below.refl _ _) _))).trans (Only.row hg (fun g h => .inl h)); have kz := hr.out.only ho nR2; have kz0 := kz.cell 0; have kz1 := kz.cell 1; simp at kz0 kz1; clear kz; replace ownF := Lib.hid ownF; have F1 := Lib.hid True.intro; replace ho := Lib.hid ho; clear hg hat) | (refine step_own (B := w.heap.size) (v := u11) (l := tk) (h := wl.heap.size) (y := S2.n) (by rfl) _ _ (by rfl) (by rfl) (by rfl) ?_ ?_ ?_ ?_ ?_; exact ((own1.out.alloc _).alloc _).drew; exact ((Blk.new _ _ _).alloc _).drew; exact (Nat.le_trans hs0 (laterD (laterA (laterA (Below.refl _ _) _) _)).size); omega; intro v1' wz ownF hg hat; have ownO := Lib.hid (Own.grown (((own2.out.alloc _).alloc _).drew) hg (hap.out.symm).or); have hap' := Lib.hid (Ap.step hap.out (((own2.out.alloc _).alloc _).drew) hat); have bO := Lib.hid (Blk.grown (t := 3) (cs := #[.int .i64 Y]) ((Blk.new2 _ _ _ _).drew) hg (own1.out.old (by simp))); have ho := (Only.of_below (F := Rows2 u11 u12) (laterD (laterA (laterA (Below.refl _ _) _) _))).trans (Only.row hg (fun g h => .inl h)); have kz := hr.out.only ho nR2; have kz0 := kz.cell 0; have kz1 := kz.cell 1; simp at kz0 kz1; clear kz; replace ownF := Lib.hid ownF; have F1 := Lib.hid True.intro; replace ho := Lib.hid ho; clear hg hat) | (refine step_own (B := w.heap.size) (v := u11) (l := tk) (h := wl.heap.size + 1) (y := S2.n) (by rfl) _ _ (by rfl) (by rfl) (by rfl) ?_ ?_ ?_ ?_ ?_; exact ((own1.out.alloc _).alloc _).drew; exact (Blk.new2 _ _ _ _).drew; exact (Nat.le_trans hs0 (laterD (laterA (laterA (Below.refl _ _) _) _)).size); omega; intro v1' wz ownF hg hat; have ownO := Lib.hid (Own.grown (((own2.out.alloc _).alloc _).drew) hg (hap.out.symm).or); have hap' := Lib.hid (Ap.step hap.out (((own2.out.alloc _).alloc _).drew) hat); have bO := Lib.hid (Blk.grown (t := 3) (cs := #[.int .i64 Y]) (((Blk.new _ _ _).alloc _).drew) hg (own1.out.old (by simp))); have ho := (Only.of_below (F := Rows2 u11 u12) (laterD (laterA (laterA (Below.refl _ _) _) _))).trans (Only.row hg (fun g h => .inl h)); have kz := hr.out.only ho nR2; have kz0 := kz.cell 0; have kz1 := kz.cell 1; simp at kz0 kz1; clear kz; replace ownF := Lib.hid ownF; have F1 := Lib.hid True.intro; replace ho := Lib.hid ho; clear hg hat) | (refine step_own (B := w.heap.size) (v := u12) (l := ml) (h := wl.heap.size) (y := Y) (by rfl) _ _ (by rfl) (by rfl) (by rfl) ?_ ?_ ?_ ?_ ?_; exact (own2.out.alloc _).drew; exact (Blk.new _ _ _).drew; exact (Nat.le_trans hs0 (laterD (laterA (Below.refl _ _) _)).size); omega; intro v2' wz ownF hg hat; have ownO := Lib.hid (Own.grown ((own1.out.alloc _).drew) hg (hap.out).or); have hap' := Lib.hid (Ap.step hap.out.symm ((own1.out.alloc _).drew) hat); have ho := (Only.of_below (F := Rows2 u11 u12) (laterD (laterA (Below.refl _ _) _))).trans (Only.row hg (fun g h => .inr h)); have kz := hr.out.only ho nR2; have kz0 := kz.cell 0; have kz1 := kz.cell 1; simp at kz0 kz1; clear kz; replace ownF := Lib.hid ownF; have F2 := Lib.hid True.intro; replace ho := Lib.hid ho; clear hg hat) | (refine step_own (B := w.heap.size) (v := u12) (l := ml) (h := wl.heap.size) (y := Y) (by rfl) _ _ (by rfl) (by rfl) (by rfl) ?_ ?_ ?_ ?_ ?_; exact ((own2.out.alloc _).alloc _).drew; exact ((Blk.new _ _ _).alloc _).drew; exact (Nat.le_trans hs0 (laterD (laterA (laterA (Below.refl _ _) _) _)).size); omega; intro v2' wz ownF hg hat; have ownO := Lib.hid (Own.grown (((own1.out.alloc _).alloc _).drew) hg (hap.out).or); have hap' := Lib.hid (Ap.step hap.out.symm (((own1.out.alloc _).alloc _).drew) hat); have bO := Lib.hid (Blk.grown (t := 3) (cs := #[.int .i64 S2.n]) ((Blk.new2 _ _ _ _).drew) hg (own2.out.old (by simp))); have ho := (Only.of_below (F := Rows2 u11 u12) (laterD (laterA (laterA (Below.refl _ _) _) _))).trans (Only.row hg (fun g h => .inr h)); have kz := hr.out.only ho nR2; have kz0 := kz.cell 0; have kz1 := kz.cell 1; simp at kz0 kz1; clear kz; replace ownF := Lib.hid ownF; have F2 := Lib.hid True.intro; replace ho := Lib.hid ho; clear hg hat) | (refine step_own (B := w.heap.size) (v := u12) (l := ml) (h := wl.heap.size + 1) (y := Y) (by rfl) _ _ (by rfl) (by rfl) (by rfl) ?_ ?_ ?_ ?_ ?_; exact ((own2.out.alloc _).alloc _).drew; exact (Blk.new2 _ _ _ _).drew; exact (Nat.le_trans hs0 (laterD (laterA (laterA (Below.refl _ _) _) _)).size); omega; intro v2' wz ownF hg hat; have ownO := Lib.hid (Own.grown (((own1.out.alloc _).alloc _).drew) hg (hap.out).or); have hap' := Lib.hid (Ap.step hap.out.symm (((own1.out.alloc _).alloc _).drew) hat); have bO := Lib.hid (Blk.grown (t := 3) (cs := #[.int .i64 S2.n]) (((Blk.new _ _ _).alloc _).drew) hg (own2.out.old (by simp))); have ho := (Only.of_below (F := Rows2 u11 u12) (laterD (laterA (laterA (Below.refl _ _) _) _))).trans (Only.row hg (fun g h => .inr h)); have kz := hr.out.only ho nR2; have kz0 := kz.cell 0; have kz1 := kz.cell 1; simp at kz0 kz1; clear kz; replace ownF := Lib.hid ownF; have F2 := Lib.hid True.intro; replace ho := Lib.hid ho; clear hg hat) | (have tok := F2; refine step_own (B := w.heap.size) (v := u11) (l := tk) (h := wl.heap.size) (y := S2.n) (by rfl) _ _ (by rfl) (by rfl) (by rfl) ?_ ?_ ?_ ?_ ?_; exact ownO.out; exact bO.out; exact (Nat.le_trans hs0 ho.out.size); omega; intro v1' wy ownG hg hat; have own1f := Lib.hid ownG; have own2f := Lib.hid (Own.grown ownF.out hg hap'.out.or); have apf := Lib.hid (id (Ap.step hap'.out.symm ownF.out hat)); have hof := Lib.hid (ho.out.trans (Only.row hg (fun g h => .inl h))); have ky := hr.out.only hof.out nR2; have ky0 := ky.cell 0; have ky1 := ky.cell 1; simp at ky0 ky1; clear ky hg hat ownG tok) | (have tok := F2; refine step_own (B := w.heap.size) (v := u11) (l := tk) (h := wl.heap.size + 1) (y := S2.n) (by rfl) _ _ (by rfl) (by rfl) (by rfl) ?_ ?_ ?_ ?_ ?_; exact ownO.out; exact bO.out; exact (Nat.le_trans hs0 ho.out.size); omega; intro v1' wy ownG hg hat; have own1f := Lib.hid ownG; have own2f := Lib.hid (Own.grown ownF.out hg hap'.out.or); have apf := Lib.hid (id (Ap.step hap'.out.symm ownF.out hat)); have hof := Lib.hid (ho.out.trans (Only.row hg (fun g h => .inl h))); have ky := hr.out.only hof.out nR2; have ky0 := ky.cell 0; have ky1 := ky.cell 1; simp at ky0 ky1; clear ky hg hat ownG tok) | (have tok := F2; refine step_own (B := w.heap.size) (v := u11) (l := tk) (h := wz.heap.size) (y := S2.n) (by rfl) _ _ (by rfl) (by rfl) (by rfl) ?_ ?_ ?_ ?_ ?_; exact (ownO.out.alloc _); exact (Blk.new _ _ _); exact (Nat.le_trans (Nat.le_trans hs0 ho.out.size) (laterA (Below.refl _ _) _).size); omega; intro v1' wy ownG hg hat; have own1f := Lib.hid ownG; have own2f := Lib.hid (Own.grown (ownF.out.alloc _) hg hap'.out.or); have apf := Lib.hid (id (Ap.step hap'.out.symm (ownF.out.alloc _) hat)); have hof := Lib.hid ((ho.out.trans (Only.of_below (laterA (Below.refl _ _) _))).trans (Only.row hg (fun g h => .inl h))); have ky := hr.out.only hof.out nR2; have ky0 := ky.cell 0; have ky1 := ky.cell 1; simp at ky0 ky1; clear ky hg hat ownG tok) | (have tok := F1; refine step_own (B := w.heap.size) (v := u12) (l := ml) (h := wl.heap.size) (y := Y) (by rfl) _ _ (by rfl) (by rfl) (by rfl) ?_ ?_ ?_ ?_ ?_; exact ownO.out; exact bO.out; exact (Nat.le_trans hs0 ho.out.size); omega; intro v2' wy ownG hg hat; have own2f := Lib.hid ownG; have own1f := Lib.hid (Own.grown ownF.out hg hap'.out.or); have apf := Lib.hid (Ap.symm (Ap.step hap'.out.symm ownF.out hat)); have hof := Lib.hid (ho.out.trans (Only.row hg (fun g h => .inr h))); have ky := hr.out.only hof.out nR2; have ky0 := ky.cell 0; have ky1 := ky.cell 1; simp at ky0 ky1; clear ky hg hat ownG tok) | (have tok := F1; refine step_own (B := w.heap.size) (v := u12) (l := ml) (h := wl.heap.size + 1) (y := Y) (by rfl) _ _ (by rfl) (by rfl) (by rfl) ?_ ?_ ?_ ?_ ?_; exact ownO.out; exact bO.out; exact (Nat.le_trans hs0 ho.out.size); omega; intro v2' wy ownG hg hat; have own2f := Lib.hid ownG; have own1f := Lib.hid (Own.grown ownF.out hg hap'.out.or); have apf := Lib.hid (Ap.symm (Ap.step hap'.out.symm ownF.out hat)); have hof := Lib.hid (ho.out.trans (Only.row hg (fun g h => .inr h))); have ky := hr.out.only hof.out nR2; have ky0 := ky.cell 0; have ky1 := ky.cell 1; simp at ky0 ky1; clear ky hg hat ownG tok) | (have tok := F1; refine step_own (B := w.heap.size) (v := u12) (l := ml) (h := wz.heap.size) (y := Y) (by rfl) _ _ (by rfl) (by rfl) (by rfl) ?_ ?_ ?_ ?_ ?_; exact (ownO.out.alloc _); exact (Blk.new _ _ _); exact (Nat.le_trans (Nat.le_trans hs0 ho.out.size) (laterA (Below.refl _ _) _).size); omega; intro v2' wy ownG hg hat; have own2f := Lib.hid ownG; have own1f := Lib.hid (Own.grown (ownF.out.alloc _) hg hap'.out.or); have apf := Lib.hid (Ap.symm (Ap.step hap'.out.symm (ownF.out.alloc _) hat)); have hof := Lib.hid ((ho.out.trans (Only.of_below (laterA (Below.refl _ _) _))).trans (Only.row hg (fun g h => .inr h))); have ky := hr.out.only hof.out nR2; have ky0 := ky.cell 0; have ky1 := ky.cell 1; simp at ky0 ky1; clear ky hg hat ownG tok))
        all_goals
          have hl8 := Lib.hid (Blk.only hl.out hof.out nL2)
          have hx8 := Lib.hid (Blk.only hx.out hof.out nX2)
          have hb8 := Lib.hid (only_old hb.out hof.out nB2 hb.out.size)
          go_wp2_with fail
          go_roundw
          case rel => exact ⟨j + 1, T + d, { S2 with n := S2.n - S2.n }, tk ++ [S2.n], ml ++ [Y], rfl, by go_num, by omega, by simp [hlen], by omega, by omega, q5.out, q6.out, hv3.out, hI3.out, all_snoc hbt.out (by omega), all_snoc hbm.out (by omega), own1f.out, own2f.out, apf.out, hl8.out, hx8.out, hb8.out⟩
          case measure => simp [intOf]; omega
      · have g1 : q ≤ S2.n := by omega
        have hS3 : Bkt.takeS S2 q = { S2 with n := S2.n - q } := by unfold Bkt.takeS Bkt.takeE; rw [if_neg (show ¬ q < 0 by omega), if_neg hq]; rfl
        have hE3 : Bkt.takeE S2 q = 0 := by unfold Bkt.takeE; rw [if_neg (by omega), if_neg hq]
        have hv3 := Bkt.wf_takeS hv2.out q
        have hI3 := Bkt.inv_step hI.out hup2 hup1 q0 g1
        rw [hS3] at hv3
        replace hS3 := Lib.hid hS3
        replace hE3 := Lib.hid hE3
        replace hv3 := Lib.hid hv3
        replace hI3 := Lib.hid hI3
        go_wp2_with fail
        refine (tokens_any L S2 _ hl.out hv2.out).mono ?_
        rintro e w7 ⟨rfl, rfl⟩
        go_wp2_with fail
        refine (take_to L S2 q 0 _ _ hl.out hv2.out hE3.out hS3.out).mono ?_
        rintro e wl ⟨rfl, hl7, ho⟩
        replace own1 := Lib.hid (own1.out.grown ho (.inr (own1.out.ne hl.out (by decide))))
        replace own2 := Lib.hid (own2.out.grown ho (.inr (own2.out.ne hl.out (by decide))))
        replace hl := Lib.hid hl7
        replace hr := Lib.hid (hr.out.one ho nR)
        replace hx := Lib.hid (hx.out.one ho n1)
        replace hb := Lib.hid (one_old hb.out ho hL hb.out.size)
        clear ho hl7 y0 y1 y2
        replace e1 := e1.out
        replace e2 := e2.out
        replace e3 := e3.out
        replace e4 := e4.out
        have r0 := hr.out.cell 0
        have r1 := hr.out.cell 1
        simp at r0 r1
        have hlen := htk.out
        have hlen2 := hI.out.len
        go_wp2_with fail
        have hs0 : w.heap.size ≤ wl.heap.size := hb.out.size
        have nR2 : ¬ Rows2 u11 u12 R := by rintro (h | h); exact own1.out.ne hr.out (by decide) h; exact own2.out.ne hr.out (by decide) h
        have nL2 : ¬ Rows2 u11 u12 L := by rintro (h | h); exact own1.out.ne hl.out (by decide) h; exact own2.out.ne hl.out (by decide) h
        have nX2 : ¬ Rows2 u11 u12 w.heap.size := by rintro (h | h); exact own1.out.ne hx.out (by decide) h; exact own2.out.ne hx.out (by decide) h
        have nB2 : ∀ i, Rows2 u11 u12 i → w.heap.size ≤ i := by rintro i (h | h); exact (World.ownsRow.lt own1.out i h).1; exact (World.ownsRow.lt own2.out i h).1
        go_region_held3 (fun w' => w'.cell? ⟨R, 0, none⟩ = some (.int .i64 num) ∧ w'.cell? ⟨R, 1, none⟩ = some (.int .i64 den)) (first | exact ⟨r0, r1⟩ | exact ⟨kz0, kz1⟩ | exact ⟨ky0, ky1⟩ | go_keep) (first | (refine step_own (B := w.heap.size) (v := u11) (l := tk) (h := wl.heap.size) (y := q) (by rfl) _ _ (by rfl) (by rfl) (by rfl) ?_ ?_ ?_ ?_ ?_; exact (own1.out.alloc _).drew; exact (Blk.new _ _ _).drew; exact (Nat.le_trans hs0 (laterD (laterA (Below.refl _ _) _)).size); omega; intro v1' wz ownF hg hat; have ownO := Lib.hid (Own.grown ((own2.out.alloc _).drew) hg (hap.out.symm).or); have hap' := Lib.hid (Ap.step hap.out ((own2.out.alloc _).drew) hat); have ho := (Only.of_below (F := Rows2 u11 u12) (laterD (laterA (Below.refl _ _) _))).trans (Only.row hg (fun g h => .inl h)); have kz := hr.out.only ho nR2; have kz0 := kz.cell 0; have kz1 := kz.cell 1; simp at kz0 kz1; clear kz; replace ownF := Lib.hid ownF; have F1 := Lib.hid True.intro; replace ho := Lib.hid ho; clear hg hat) | (refine step_own (B := w.heap.size) (v := u11) (l := tk) (h := wl.heap.size) (y := q) (by rfl) _ _ (by rfl) (by rfl) (by rfl) ?_ ?_ ?_ ?_ ?_; exact ((own1.out.alloc _).alloc _).drew; exact ((Blk.new _ _ _).alloc _).drew; exact (Nat.le_trans hs0 (laterD (laterA (laterA (Below.refl _ _) _) _)).size); omega; intro v1' wz ownF hg hat; have ownO := Lib.hid (Own.grown (((own2.out.alloc _).alloc _).drew) hg (hap.out.symm).or); have hap' := Lib.hid (Ap.step hap.out (((own2.out.alloc _).alloc _).drew) hat); have bO := Lib.hid (Blk.grown (t := 3) (cs := #[.int .i64 Y]) ((Blk.new2 _ _ _ _).drew) hg (own1.out.old (by simp))); have ho := (Only.of_below (F := Rows2 u11 u12) (laterD (laterA (laterA (Below.refl _ _) _) _))).trans (Only.row hg (fun g h => .inl h)); have kz := hr.out.only ho nR2; have kz0 := kz.cell 0; have kz1 := kz.cell 1; simp at kz0 kz1; clear kz; replace ownF := Lib.hid ownF; have F1 := Lib.hid True.intro; replace ho := Lib.hid ho; clear hg hat) | (refine step_own (B := w.heap.size) (v := u11) (l := tk) (h := wl.heap.size + 1) (y := q) (by rfl) _ _ (by rfl) (by rfl) (by rfl) ?_ ?_ ?_ ?_ ?_; exact ((own1.out.alloc _).alloc _).drew; exact (Blk.new2 _ _ _ _).drew; exact (Nat.le_trans hs0 (laterD (laterA (laterA (Below.refl _ _) _) _)).size); omega; intro v1' wz ownF hg hat; have ownO := Lib.hid (Own.grown (((own2.out.alloc _).alloc _).drew) hg (hap.out.symm).or); have hap' := Lib.hid (Ap.step hap.out (((own2.out.alloc _).alloc _).drew) hat); have bO := Lib.hid (Blk.grown (t := 3) (cs := #[.int .i64 Y]) (((Blk.new _ _ _).alloc _).drew) hg (own1.out.old (by simp))); have ho := (Only.of_below (F := Rows2 u11 u12) (laterD (laterA (laterA (Below.refl _ _) _) _))).trans (Only.row hg (fun g h => .inl h)); have kz := hr.out.only ho nR2; have kz0 := kz.cell 0; have kz1 := kz.cell 1; simp at kz0 kz1; clear kz; replace ownF := Lib.hid ownF; have F1 := Lib.hid True.intro; replace ho := Lib.hid ho; clear hg hat) | (refine step_own (B := w.heap.size) (v := u12) (l := ml) (h := wl.heap.size) (y := Y) (by rfl) _ _ (by rfl) (by rfl) (by rfl) ?_ ?_ ?_ ?_ ?_; exact (own2.out.alloc _).drew; exact (Blk.new _ _ _).drew; exact (Nat.le_trans hs0 (laterD (laterA (Below.refl _ _) _)).size); omega; intro v2' wz ownF hg hat; have ownO := Lib.hid (Own.grown ((own1.out.alloc _).drew) hg (hap.out).or); have hap' := Lib.hid (Ap.step hap.out.symm ((own1.out.alloc _).drew) hat); have ho := (Only.of_below (F := Rows2 u11 u12) (laterD (laterA (Below.refl _ _) _))).trans (Only.row hg (fun g h => .inr h)); have kz := hr.out.only ho nR2; have kz0 := kz.cell 0; have kz1 := kz.cell 1; simp at kz0 kz1; clear kz; replace ownF := Lib.hid ownF; have F2 := Lib.hid True.intro; replace ho := Lib.hid ho; clear hg hat) | (refine step_own (B := w.heap.size) (v := u12) (l := ml) (h := wl.heap.size) (y := Y) (by rfl) _ _ (by rfl) (by rfl) (by rfl) ?_ ?_ ?_ ?_ ?_; exact ((own2.out.alloc _).alloc _).drew; exact ((Blk.new _ _ _).alloc _).drew; exact (Nat.le_trans hs0 (laterD (laterA (laterA (Below.refl _ _) _) _)).size); omega; intro v2' wz ownF hg hat; have ownO := Lib.hid (Own.grown (((own1.out.alloc _).alloc _).drew) hg (hap.out).or); have hap' := Lib.hid (Ap.step hap.out.symm (((own1.out.alloc _).alloc _).drew) hat); have bO := Lib.hid (Blk.grown (t := 3) (cs := #[.int .i64 q]) ((Blk.new2 _ _ _ _).drew) hg (own2.out.old (by simp))); have ho := (Only.of_below (F := Rows2 u11 u12) (laterD (laterA (laterA (Below.refl _ _) _) _))).trans (Only.row hg (fun g h => .inr h)); have kz := hr.out.only ho nR2; have kz0 := kz.cell 0; have kz1 := kz.cell 1; simp at kz0 kz1; clear kz; replace ownF := Lib.hid ownF; have F2 := Lib.hid True.intro; replace ho := Lib.hid ho; clear hg hat) | (refine step_own (B := w.heap.size) (v := u12) (l := ml) (h := wl.heap.size + 1) (y := Y) (by rfl) _ _ (by rfl) (by rfl) (by rfl) ?_ ?_ ?_ ?_ ?_; exact ((own2.out.alloc _).alloc _).drew; exact (Blk.new2 _ _ _ _).drew; exact (Nat.le_trans hs0 (laterD (laterA (laterA (Below.refl _ _) _) _)).size); omega; intro v2' wz ownF hg hat; have ownO := Lib.hid (Own.grown (((own1.out.alloc _).alloc _).drew) hg (hap.out).or); have hap' := Lib.hid (Ap.step hap.out.symm (((own1.out.alloc _).alloc _).drew) hat); have bO := Lib.hid (Blk.grown (t := 3) (cs := #[.int .i64 q]) (((Blk.new _ _ _).alloc _).drew) hg (own2.out.old (by simp))); have ho := (Only.of_below (F := Rows2 u11 u12) (laterD (laterA (laterA (Below.refl _ _) _) _))).trans (Only.row hg (fun g h => .inr h)); have kz := hr.out.only ho nR2; have kz0 := kz.cell 0; have kz1 := kz.cell 1; simp at kz0 kz1; clear kz; replace ownF := Lib.hid ownF; have F2 := Lib.hid True.intro; replace ho := Lib.hid ho; clear hg hat) | (have tok := F2; refine step_own (B := w.heap.size) (v := u11) (l := tk) (h := wl.heap.size) (y := q) (by rfl) _ _ (by rfl) (by rfl) (by rfl) ?_ ?_ ?_ ?_ ?_; exact ownO.out; exact bO.out; exact (Nat.le_trans hs0 ho.out.size); omega; intro v1' wy ownG hg hat; have own1f := Lib.hid ownG; have own2f := Lib.hid (Own.grown ownF.out hg hap'.out.or); have apf := Lib.hid (id (Ap.step hap'.out.symm ownF.out hat)); have hof := Lib.hid (ho.out.trans (Only.row hg (fun g h => .inl h))); have ky := hr.out.only hof.out nR2; have ky0 := ky.cell 0; have ky1 := ky.cell 1; simp at ky0 ky1; clear ky hg hat ownG tok) | (have tok := F2; refine step_own (B := w.heap.size) (v := u11) (l := tk) (h := wl.heap.size + 1) (y := q) (by rfl) _ _ (by rfl) (by rfl) (by rfl) ?_ ?_ ?_ ?_ ?_; exact ownO.out; exact bO.out; exact (Nat.le_trans hs0 ho.out.size); omega; intro v1' wy ownG hg hat; have own1f := Lib.hid ownG; have own2f := Lib.hid (Own.grown ownF.out hg hap'.out.or); have apf := Lib.hid (id (Ap.step hap'.out.symm ownF.out hat)); have hof := Lib.hid (ho.out.trans (Only.row hg (fun g h => .inl h))); have ky := hr.out.only hof.out nR2; have ky0 := ky.cell 0; have ky1 := ky.cell 1; simp at ky0 ky1; clear ky hg hat ownG tok) | (have tok := F2; refine step_own (B := w.heap.size) (v := u11) (l := tk) (h := wz.heap.size) (y := q) (by rfl) _ _ (by rfl) (by rfl) (by rfl) ?_ ?_ ?_ ?_ ?_; exact (ownO.out.alloc _); exact (Blk.new _ _ _); exact (Nat.le_trans (Nat.le_trans hs0 ho.out.size) (laterA (Below.refl _ _) _).size); omega; intro v1' wy ownG hg hat; have own1f := Lib.hid ownG; have own2f := Lib.hid (Own.grown (ownF.out.alloc _) hg hap'.out.or); have apf := Lib.hid (id (Ap.step hap'.out.symm (ownF.out.alloc _) hat)); have hof := Lib.hid ((ho.out.trans (Only.of_below (laterA (Below.refl _ _) _))).trans (Only.row hg (fun g h => .inl h))); have ky := hr.out.only hof.out nR2; have ky0 := ky.cell 0; have ky1 := ky.cell 1; simp at ky0 ky1; clear ky hg hat ownG tok) | (have tok := F1; refine step_own (B := w.heap.size) (v := u12) (l := ml) (h := wl.heap.size) (y := Y) (by rfl) _ _ (by rfl) (by rfl) (by rfl) ?_ ?_ ?_ ?_ ?_; exact ownO.out; exact bO.out; exact (Nat.le_trans hs0 ho.out.size); omega; intro v2' wy ownG hg hat; have own2f := Lib.hid ownG; have own1f := Lib.hid (Own.grown ownF.out hg hap'.out.or); have apf := Lib.hid (Ap.symm (Ap.step hap'.out.symm ownF.out hat)); have hof := Lib.hid (ho.out.trans (Only.row hg (fun g h => .inr h))); have ky := hr.out.only hof.out nR2; have ky0 := ky.cell 0; have ky1 := ky.cell 1; simp at ky0 ky1; clear ky hg hat ownG tok) | (have tok := F1; refine step_own (B := w.heap.size) (v := u12) (l := ml) (h := wl.heap.size + 1) (y := Y) (by rfl) _ _ (by rfl) (by rfl) (by rfl) ?_ ?_ ?_ ?_ ?_; exact ownO.out; exact bO.out; exact (Nat.le_trans hs0 ho.out.size); omega; intro v2' wy ownG hg hat; have own2f := Lib.hid ownG; have own1f := Lib.hid (Own.grown ownF.out hg hap'.out.or); have apf := Lib.hid (Ap.symm (Ap.step hap'.out.symm ownF.out hat)); have hof := Lib.hid (ho.out.trans (Only.row hg (fun g h => .inr h))); have ky := hr.out.only hof.out nR2; have ky0 := ky.cell 0; have ky1 := ky.cell 1; simp at ky0 ky1; clear ky hg hat ownG tok) | (have tok := F1; refine step_own (B := w.heap.size) (v := u12) (l := ml) (h := wz.heap.size) (y := Y) (by rfl) _ _ (by rfl) (by rfl) (by rfl) ?_ ?_ ?_ ?_ ?_; exact (ownO.out.alloc _); exact (Blk.new _ _ _); exact (Nat.le_trans (Nat.le_trans hs0 ho.out.size) (laterA (Below.refl _ _) _).size); omega; intro v2' wy ownG hg hat; have own2f := Lib.hid ownG; have own1f := Lib.hid (Own.grown (ownF.out.alloc _) hg hap'.out.or); have apf := Lib.hid (Ap.symm (Ap.step hap'.out.symm (ownF.out.alloc _) hat)); have hof := Lib.hid ((ho.out.trans (Only.of_below (laterA (Below.refl _ _) _))).trans (Only.row hg (fun g h => .inr h))); have ky := hr.out.only hof.out nR2; have ky0 := ky.cell 0; have ky1 := ky.cell 1; simp at ky0 ky1; clear ky hg hat ownG tok))
        all_goals
          have hl8 := Lib.hid (Blk.only hl.out hof.out nL2)
          have hx8 := Lib.hid (Blk.only hx.out hof.out nX2)
          have hb8 := Lib.hid (only_old hb.out hof.out nB2 hb.out.size)
          go_wp2_with fail
          go_roundw
          case rel => exact ⟨j + 1, T + d, { S2 with n := S2.n - q }, tk ++ [q], ml ++ [Y], rfl, by go_num, by omega, by simp [hlen], by omega, by omega, q5.out, q6.out, hv3.out, hI3.out, all_snoc hbt.out (by omega), all_snoc hbm.out (by omega), own1f.out, own2f.out, apf.out, hl8.out, hx8.out, hb8.out⟩
          case measure => simp [intOf]; omega
    · -- CHECK
      have hjm : j = m := by omega
      subst hjm
      clear hlt
      have hlen := htk.out
      have hlen2 := hI.out.len
      rcases Nat.eq_zero_or_pos j with h0 | hpos
      · subst h0
        clear hlen hlen2
        go_wp2_with fail
        refine wp_loop_rounds 1 ?_
        rw [rounds_succ]
        go_wp2_with fail
        go_ret
        exact ⟨rfl, hb.out⟩
      · obtain ⟨b1, cap1, rfl, hc1⟩ := own1.out.cell (by omega)
        obtain ⟨b2, cap2, rfl, hc2⟩ := own2.out.cell (by omega)
        rw [hlen]
        rw [← hlen2, hlen]
        replace hc1 := Lib.hid hc1
        replace hc2 := Lib.hid hc2
        have hgood := Lib.hid hI.out.good
        have hseg := Lib.hid (Bkt.seg_bd hbt.out)
        have hseg2 := Lib.hid (Bkt.seg_bd hbm.out)
        have htk2 := Lib.hid (hlen2.symm.trans hlen)
        clear hlen hlen2
        go_wp2_with fail
        go_loop [17] (fun i => ∃ a : Nat, a ≤ j ∧ i = .int .i64 a) (fun i => j - (intOf i).toNat)
        case atStart => exact ⟨0, by omega, rfl⟩
        case round =>
          obtain ⟨a, ha, rfl⟩ := hrel
          by_cases hlt : a < j
          · go_wp2_with fail
            go_loop [18, 19, 20] (fun sm mo k => ∃ b : Nat, a ≤ b ∧ b ≤ j ∧ k = .int .i64 b ∧ sm = .int .i64 (Bkt.seg tk a b) ∧ mo = .int .i64 (1 + Z + Bkt.most ml a b)) (fun _ _ k => j - (intOf k).toNat)
            case atStart => exact ⟨a, by omega, by omega, rfl, by rw [Bkt.seg_self tk (Nat.le_refl a)], by rw [Bkt.most_self, Int.add_zero]⟩
            case round =>
              obtain ⟨b, hab, hbj, rfl, rfl, rfl⟩ := hrel
              by_cases hlt2 : b < j
              · have x0 := hc1.out b (by rw [htk.out]; exact hlt2)
                have y0 := hc2.out b (by rw [htk2.out]; exact hlt2)
                have e1 := Bkt.seg_succ tk hab (by rw [htk.out]; exact hlt2)
                have s1 := hseg.out a b (by rw [htk.out]; omega)
                have s2 := hseg.out a (b + 1) (by rw [htk.out]; omega)
                have t1 := hseg2.out (a + 1) b (by rw [htk2.out]; omega)
                have g := hgood.out a (b + 1) (by omega) (by rw [htk.out]; omega)
                have xb := hbt.out _ (List.getElem_mem (by rw [htk.out]; exact hlt2 : b < tk.length))
                have yb := hbm.out _ (List.getElem_mem (by rw [htk2.out]; exact hlt2 : b < ml.length))
                have hm0 : 0 ≤ Bkt.most ml a b ∧ Bkt.most ml a b ≤ 9007199254740992 * 41 := by unfold Bkt.most; omega
                have hs0 : 0 ≤ Bkt.seg tk a b ∧ Bkt.seg tk a b ≤ 9007199254740992 * 41 := by omega
                have hz : a < b → Bkt.most ml a (b + 1) = Bkt.most ml a b + ml[b]'(by rw [htk2.out]; exact hlt2) + 1 := fun h => Bkt.most_succ ml h (by rw [htk2.out]; exact hlt2)
                have hz2 : a = b → Bkt.most ml a (b + 1) = Bkt.most ml a b := fun h => by subst h; rw [Bkt.most_next, Bkt.most_self]
                clear s1 s2 t1
                generalize tk[b]'(by rw [htk.out]; exact hlt2) = x at *
                generalize ml[b]'(by rw [htk2.out]; exact hlt2) = y' at *
                generalize hS1 : Bkt.seg tk a (b + 1) = S1 at *
                generalize hM1 : Bkt.most ml a (b + 1) = M1 at *
                generalize Bkt.seg tk a b = S0 at *
                generalize Bkt.most ml a b = M0 at *
                replace hS1 := Lib.hid hS1
                replace hM1 := Lib.hid hM1
                by_cases hlt3 : a < b
                · have hz := hz hlt3
                  clear hz2
                  subst e1 hz
                  go_wp2_with fail
                  go_round
                  case rel => exact ⟨b + 1, by omega, by omega, by go_num, by rw [hS1.out], by rw [hM1.out]; go_num⟩
                  case measure => simp [intOf]; omega
                · have hz2 := hz2 (by omega)
                  clear hz
                  subst e1 hz2
                  go_wp2_with fail
                  go_round
                  case rel => exact ⟨b + 1, by omega, by omega, by go_num, by rw [hS1.out], by rw [hM1.out]⟩
                  case measure => simp [intOf]; omega
              · go_wp2_with fail
                go_round
                case rel => exact ⟨a + 1, by omega, by go_num⟩
                case measure => simp [intOf]; omega
          · go_wp2_with fail
            go_ret
            exact ⟨rfl, hb.out⟩
end Go.Proofs.Ytniiemmgcjkphaa
