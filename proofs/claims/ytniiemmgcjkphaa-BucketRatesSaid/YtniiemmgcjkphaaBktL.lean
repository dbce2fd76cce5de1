/-
  The laws of layer 13: BucketRates.
-/
import Derived.Test.YtniiemmgcjkphaaBktK
namespace Go.Proofs.Ytniiemmgcjkphaa
open Go.RowKit Go.Sort

theorem bcell {W w1 : World} (hb : Below W.heap.size W w1) : (∀ b o, b < W.heap.size → w1.cell? ⟨b, o, none⟩ = W.cell? ⟨b, o, none⟩) ∧ (∀ b o, b < W.heap.size → w1.frozen? ⟨b, o, none⟩ = W.frozen? ⟨b, o, none⟩) :=
  ⟨fun b o h => hb.cell (p := ⟨b, o, none⟩) h, fun b o h => hb.frozen (p := ⟨b, o, none⟩) h⟩

theorem laterS {a b : World} (h : Below a.heap.size a b) {p : Addr} (hp : a.heap.size ≤ p.block) (u : Value) : Below a.heap.size a (b.setCell p u) := h.setCell hp u

/-- A block's two first cells are numbers. -/
def Two (w : World) (g : Nat) (x y : Int) : Prop := g < w.heap.size ∧ w.cell? ⟨g, 0, none⟩ = some (.int .i64 x) ∧ w.cell? ⟨g, 1, none⟩ = some (.int .i64 y)
theorem Two.later {w w' : World} {g : Nat} {x y : Int} (h : Two w g x y) (hb : Below w.heap.size w w') : Two w' g x y :=
  ⟨Nat.lt_of_lt_of_le h.1 hb.size, (hb.cell (p := ⟨g, 0, none⟩) h.1).trans h.2.1, (hb.cell (p := ⟨g, 1, none⟩) h.1).trans h.2.2⟩
theorem Two.one {w w' : World} {g b : Nat} {x y : Int} (h : Two w g x y) (hb : w.grownBy w' (some b)) (hne : g ≠ b) : Two w' g x y :=
  ⟨Nat.lt_of_lt_of_le h.1 hb.size, (World.cell?_of_block (hb.block g h.1 (fun e => by injection e with e; exact hne e))).trans h.2.1, (World.cell?_of_block (hb.block g h.1 (fun e => by injection e with e; exact hne e))).trans h.2.2⟩

/-- A block that has two cells. -/
def Lives (w : World) (g : Nat) : Prop := g < w.heap.size ∧ (w.cell? ⟨g, 0, none⟩).isSome = true ∧ (w.cell? ⟨g, 1, none⟩).isSome = true
theorem Lives.of {w : World} {g : Nat} {t : TypeId} {a b : Value} (h : Blk w g t #[a, b]) : Lives w g := ⟨h.lt, by rw [h.cell 0]; rfl, by rw [h.cell 1]; rfl⟩
theorem Lives.new (w : World) (t : TypeId) (a b : Value) : Lives (w.alloc (.cells #[a, b] t)) w.heap.size := .of (Blk.new w t #[a, b])
theorem Lives.new2 (w : World) (o : Obj) (t : TypeId) (a b : Value) : Lives ((w.alloc o).alloc (.cells #[a, b] t)) (w.heap.size + 1) := .of (Blk.new2 w o t #[a, b])
theorem Lives.later {w w' : World} {g : Nat} (h : Lives w g) (hb : Below w.heap.size w w') : Lives w' g :=
  ⟨Nat.lt_of_lt_of_le h.1 hb.size, (hb.cell (p := ⟨g, 0, none⟩) h.1) ▸ h.2.1, (hb.cell (p := ⟨g, 1, none⟩) h.1) ▸ h.2.2⟩
theorem Lives.alloc {w : World} {g : Nat} (h : Lives w g) (o : Obj) : Lives (w.alloc o) g := h.later (laterA (Below.refl _ _) o)
theorem Lives.drew {w : World} {g : Nat} (h : Lives w g) : Lives w.drew g := h
theorem Lives.set {w : World} {g : Nat} (h : Lives w g) (p : Addr) (u : Value) : Lives (w.setCell p u) g := by
  obtain ⟨h0, h1, h2⟩ := h
  obtain ⟨a, ha⟩ := Option.isSome_iff_exists.1 h1
  obtain ⟨b, hb⟩ := Option.isSome_iff_exists.1 h2
  obtain ⟨a', ha'⟩ := cell?_setCell_some (x := u) (p := p) ha
  obtain ⟨b', hb'⟩ := cell?_setCell_some (x := u) (p := p) hb
  exact ⟨by simpa [World.setCell] using h0, by rw [ha']; rfl, by rw [hb']; rfl⟩
theorem Two.far {w : World} {g : Nat} {x y : Int} (h : Two w g x y) {p : Addr} (hp : p.block ≠ g) (u : Value) : Two (w.setCell p u) g x y :=
  ⟨by simpa [World.setCell] using h.1, (World.cell?_setCell_other w p ⟨g, 0, none⟩ u (by rintro rfl; exact hp rfl)).trans h.2.1, (World.cell?_setCell_other w p ⟨g, 1, none⟩ u (by rintro rfl; exact hp rfl)).trans h.2.2⟩
theorem Two.alloc {w : World} {g : Nat} {x y : Int} (h : Two w g x y) (o : Obj) : Two (w.alloc o) g x y := h.later (laterA (Below.refl _ _) o)
theorem Two.new (w : World) (t : TypeId) (x y : Int) : Two (w.alloc (.cells #[.int .i64 x, .int .i64 y] t)) w.heap.size x y := ⟨(Blk.new w t _).lt, (Blk.new w t _).cell 0, (Blk.new w t _).cell 1⟩
theorem Two.new2 (w : World) (o : Obj) (t : TypeId) (x y : Int) : Two ((w.alloc o).alloc (.cells #[.int .i64 x, .int .i64 y] t)) (w.heap.size + 1) x y := ⟨(Blk.new2 w o t _).lt, (Blk.new2 w o t _).cell 0, (Blk.new2 w o t _).cell 1⟩
theorem Two.newS (w : World) (p q : Addr) (u v : Value) (t : TypeId) (x y : Int) : Two (((w.setCell p u).setCell q v).alloc (.cells #[.int .i64 x, .int .i64 y] t)) w.heap.size x y := by
  have h := Two.new ((w.setCell p u).setCell q v) t x y
  simpa [World.setCell] using h
theorem Two.two {w : World} {g : Nat} (h : Lives w g) (x y : Int) : Two ((w.setCell ⟨g, 0, none⟩ (.int .i64 x)).setCell ⟨g, 1, none⟩ (.int .i64 y)) g x y := by
  have h1 := h.set ⟨g, 0, none⟩ (.int .i64 x)
  refine ⟨(h1.set ⟨g, 1, none⟩ (.int .i64 y)).1, ?_, World.cell?_setCell_same' _ _ _ h1.2.2⟩
  rw [World.cell?_setCell_other _ _ _ _ (by simp)]
  exact World.cell?_setCell_same' _ _ _ h.2.1

theorem Bkt.fill_kept0 {S : Bkt.St} (h : Bkt.wf S) {num den : Int} (hk : Bkt.kept S num den = 0) : (Bkt.fill S S.t num den).n = S.n ∧ (Bkt.fill S S.t num den).r = 0 := by
  have hp : Bkt.parts S S.t num den = 0 := by unfold Bkt.parts; rw [hk, Int.sub_self, Int.zero_mul]; rfl
  have h1 := h.n1
  refine ⟨by rw [Bkt.fill_n, hp, Int.zero_ediv]; omega, ?_⟩
  unfold Bkt.fill
  rw [hp, Int.zero_ediv, Int.zero_emod]
  split <;> rfl

set_option maxHeartbeats 4000000 in
set_option maxRecDepth 100000 in
theorem brates_any (x0 x1 y0 y1 d : Int) (w : World) :
    Calls Try.prog 7 #[.agg #[.int .i64 x0, .int .i64 x1], .agg #[.int .i64 y0, .int .i64 y1], .int .i64 d] w fun e w' => e = .returned (.bool true) ∧ Below w.heap.size w w' := by
  have hX0 := Int.emod_nonneg x0 (show (16777216 : Int) ≠ 0 by omega)
  have hX1 := Int.emod_lt_of_pos x0 (show (0 : Int) < 16777216 by omega)
  have hY0 := Int.emod_nonneg x1 (show (1073741824 : Int) ≠ 0 by omega)
  have hY1 := Int.emod_lt_of_pos x1 (show (0 : Int) < 1073741824 by omega)
  have hU0 := Int.emod_nonneg y0 (show (16777216 : Int) ≠ 0 by omega)
  have hU1 := Int.emod_lt_of_pos y0 (show (0 : Int) < 16777216 by omega)
  have hV0 := Int.emod_nonneg y1 (show (1073741824 : Int) ≠ 0 by omega)
  have hV1 := Int.emod_lt_of_pos y1 (show (0 : Int) < 1073741824 by omega)
  have hT := Lib.hid (rate_any x0 x1)
  have hT2 := Lib.hid (rate_any y0 y1)
  generalize x0 % 16777216 = num at *
  generalize y0 % 16777216 = num2 at *
  obtain ⟨den, hden⟩ : ∃ den, 1 + x1 % 1073741824 = den := ⟨_, rfl⟩
  obtain ⟨den2, hden2⟩ : ∃ den, 1 + y1 % 1073741824 = den := ⟨_, rfl⟩
  rw [hden] at hT
  rw [hden2] at hT2
  have hd0 : 1 ≤ den := by omega
  have hd1 : den ≤ 1073741824 := by omega
  have he0 : 1 ≤ den2 := by omega
  have he1 : den2 ≤ 1073741824 := by omega
  clear hden hden2 hY0 hY1 hV0 hV1
  have hK := Lib.hid (bring_same d 1000 (by omega) (by omega))
  have hK0 := Int.emod_nonneg d (show (1000 : Int) ≠ 0 by omega)
  have hK1 := Int.emod_lt_of_pos d (show (0 : Int) < 1000 by omega)
  generalize d % 1000 = k at *
  obtain ⟨S0, hS0⟩ : ∃ S0, Bkt.takeS (Bkt.start 1073741824 0) 1073741824 = S0 := ⟨_, rfl⟩
  have hv0 := Bkt.wf_start (B := 1073741824) (t := 0) (by decide)
  have hv1 := Bkt.wf_takeS hv0 1073741824
  rw [hS0] at hv1
  have hS0t : S0.t = 0 := by rw [← hS0]; rfl
  have hmay : Bkt.may num den = true := by rw [Bkt.may_iff]; omega
  have hmay2 : Bkt.may num2 den2 = true := by rw [Bkt.may_iff]; omega
  have hfe := Bkt.fillE_ok (s := S0) (t := 1 + k) (by omega) (by omega) (by omega) hmay
  have hfs := Bkt.fillS_of (s := S0) (t := 1 + k) hmay (by omega) (by omega) (by omega)
  have hv2 := Bkt.wf_fillS hv1 (1 + k) num den
  rw [hfs] at hv2
  have hst := Bkt.fill_t S0 (1 + k) num den
  have hsr := Bkt.fill_rate S0 (1 + k) num den
  have hre := Bkt.fill_fill (s := S0) (t1 := 1 + k) (t2 := 1 + k) (Int.le_refl _) hX0 hd0
  generalize Bkt.fill S0 (1 + k) num den = S1 at *
  have hfe2 := Bkt.fillE_ok (s := S1) (t := 1 + k) (by omega) (by omega) (by omega) hmay
  have hfs2 := Bkt.fillS_of (s := S1) (t := 1 + k) hmay (by omega) (by omega) (by omega)
  rw [hre] at hfs2
  have hfe3 := Bkt.fillE_ok (s := S1) (t := 1 + k) (by omega) (by omega) (by omega) hmay2
  have hfs3 := Bkt.fillS_of (s := S1) (t := 1 + k) hmay2 (by omega) (by omega) (by omega)
  have hv3 := Bkt.wf_fillS hv2 (1 + k) num2 den2
  rw [hfs3] at hv3
  have hz : (¬ (num = num2 ∧ den = den2)) → (Bkt.fill S1 (1 + k) num2 den2).r = 0 := fun hk => by
    have h0 : Bkt.kept S1 num2 den2 = 0 := Bkt.kept_new (by rw [hsr.1, hsr.2]; omega)
    have := (Bkt.fill_kept0 hv2 h0).2
    rwa [hst] at this
  have hz2 : (num = num2 ∧ den = den2) → Bkt.fill S1 (1 + k) num2 den2 = S1 := fun ⟨h1, h2⟩ => by rw [← h1, ← h2]; exact hre
  have hn : (Bkt.fill S1 (1 + k) num2 den2).n = S1.n := by
    by_cases hk : num = num2 ∧ den = den2
    · rw [hz2 hk]
    · have h0 : Bkt.kept S1 num2 den2 = 0 := Bkt.kept_new (by rw [hsr.1, hsr.2]; omega)
      have := (Bkt.fill_kept0 hv2 h0).1
      rwa [hst] at this
  generalize Bkt.fill S1 (1 + k) num2 den2 = S2 at *
  have tk := fun b => tokens_any b S2
  rw [hn] at tk
  clear hmay hmay2 hre hS0t hn
  replace tk := Lib.hid tk
  replace hz := Lib.hid hz
  replace hz2 := Lib.hid hz2
  replace hS0 := Lib.hid hS0
  replace hv0 := Lib.hid hv0
  replace hv1 := Lib.hid hv1
  replace hfe := Lib.hid hfe
  replace hfs := Lib.hid hfs
  replace hv2 := Lib.hid hv2
  replace hst := Lib.hid hst
  replace hsr := Lib.hid hsr
  replace hfe2 := Lib.hid hfe2
  replace hfs2 := Lib.hid hfs2
  replace hfe3 := Lib.hid hfe3
  replace hfs3 := Lib.hid hfs3
  replace hv3 := Lib.hid hv3
  go_enter Try.func7, Try.ntmps7
  go_wp2_with fail
  have hx := (Blk.new w 22 #[.int .i64 x0, .int .i64 x1]).alloc (.cells #[.int .i64 y0, .int .i64 y1] 22)
  have hy := Blk.new2 w (.cells #[.int .i64 x0, .int .i64 x1] 22) 22 #[.int .i64 y0, .int .i64 y1]
  have hb := laterA (laterA (Below.refl w.heap.size w) (.cells #[.int .i64 x0, .int .i64 x1] 22)) (.cells #[.int .i64 y0, .int .i64 y1] 22)
  generalize (w.alloc _).alloc _ = W at *
  have c0 := hx.cell 0
  have c1 := hx.cell 1
  simp at c0 c1
  have d0 := hy.cell 0
  have d1 := hy.cell 1
  simp at d0 d1
  have e0 : w.heap.size < W.heap.size := hx.lt
  have e1 : w.heap.size + 1 < W.heap.size := hy.lt
  replace hx := Lib.hid hx
  replace hy := Lib.hid hy
  replace hb := Lib.hid hb
  have HS : ∀ w', Below W.heap.size W w' → w'.cell? ⟨w.heap.size, 0, none⟩ = some (.int .i64 x0) ∧ w'.cell? ⟨w.heap.size, 1, none⟩ = some (.int .i64 x1) ∧ w'.cell? ⟨w.heap.size + 1, 0, none⟩ = some (.int .i64 y0) ∧ w'.cell? ⟨w.heap.size + 1, 1, none⟩ = some (.int .i64 y1) := fun w' hq =>
    ⟨(hq.cell (p := ⟨w.heap.size, 0, none⟩) e0).trans c0, (hq.cell (p := ⟨w.heap.size, 1, none⟩) e0).trans c1, (hq.cell (p := ⟨w.heap.size + 1, 0, none⟩) e1).trans d0, (hq.cell (p := ⟨w.heap.size + 1, 1, none⟩) e1).trans d1⟩
  replace HS := Lib.hid HS
  go_cut [7, 8] (fun a b wx => ∃ R R' : Nat, a = .pointer (some ⟨R, 0, none⟩) ∧ b = .pointer (some ⟨R', 0, none⟩) ∧ Two wx R num den ∧ Two wx R' num2 den2 ∧ Below w.heap.size w wx)
  case first =>
    go_region_held3 (fun w' => w'.cell? ⟨w.heap.size, 0, none⟩ = some (.int .i64 x0) ∧ w'.cell? ⟨w.heap.size, 1, none⟩ = some (.int .i64 x1) ∧ w'.cell? ⟨w.heap.size + 1, 0, none⟩ = some (.int .i64 y0) ∧ w'.cell? ⟨w.heap.size + 1, 1, none⟩ = some (.int .i64 y1)) (first | exact ⟨c0, c1, d0, d1⟩ | (refine HS.out _ ?_; (repeat (first | (with_reducible refine laterS ?_ (by simp <;> omega) _) | with_reducible refine laterA ?_ _ | with_reducible refine laterD ?_ | with_reducible exact Below.refl _ _ | with_reducible refine later ?_ hbmw2 | with_reducible refine later ?_ hbmw1 | with_reducible assumption)); done)) (first | (go_at_call 15; (with_reducible refine (hT.out _).mono ?_); rintro e w1 ⟨rfl, hbmw1⟩; obtain ⟨hcw1, hfw1⟩ := bcell hbmw1; have hsw1 := hbmw1.size; (try simp at hsw1); (try have qw10 : w.heap.size < w1.heap.size := (by omega)); (try have qw11 : w.heap.size + 1 < w1.heap.size := (by omega)); (try have qw12 : W.heap.size < w1.heap.size := (by omega)); (try have qw13 : W.heap.size + 1 < w1.heap.size := (by omega))) | (go_at_call 15; (with_reducible refine (hT2.out _).mono ?_); rintro e w2 ⟨rfl, hbmw2⟩; obtain ⟨hcw2, hfw2⟩ := bcell hbmw2; have hsw2 := hbmw2.size; (try simp at hsw2); (try have qw20 : w.heap.size < w2.heap.size := (by omega)); (try have qw21 : w.heap.size + 1 < w2.heap.size := (by omega)); (try have qw22 : W.heap.size < w2.heap.size := (by omega)); (try have qw23 : W.heap.size + 1 < w2.heap.size := (by omega)); (try have qw24 : w1.heap.size < w2.heap.size := (by omega)); (try have qw25 : w1.heap.size + 1 < w2.heap.size := (by omega))))
    all_goals
      go_wp2_with fail
      go_meet
      refine ⟨_, _, rfl, rfl, ?_, ?_, ?_⟩
      · (repeat (first | with_reducible exact Two.new _ _ _ _ | with_reducible exact Two.newS _ _ _ _ _ _ _ _ | with_reducible exact Two.new2 _ _ _ _ _ | with_reducible refine Two.two ?_ _ _ | (with_reducible refine Two.far ?_ (by simp <;> omega) _) | with_reducible refine Two.alloc ?_ _ | with_reducible exact Lives.new _ _ _ _ | with_reducible exact Lives.new2 _ _ _ _ _ | with_reducible refine Lives.later ?_ hbmw2 | with_reducible refine Lives.later ?_ hbmw1 | with_reducible refine Lives.alloc ?_ _ | with_reducible refine Lives.drew ?_ | with_reducible refine Lives.set ?_ _ _))
      · (repeat (first | with_reducible exact Two.new _ _ _ _ | with_reducible exact Two.newS _ _ _ _ _ _ _ _ | with_reducible exact Two.new2 _ _ _ _ _ | with_reducible refine Two.two ?_ _ _ | (with_reducible refine Two.far ?_ (by simp <;> omega) _) | with_reducible refine Two.alloc ?_ _ | with_reducible exact Lives.new _ _ _ _ | with_reducible exact Lives.new2 _ _ _ _ _ | with_reducible refine Lives.later ?_ hbmw2 | with_reducible refine Lives.later ?_ hbmw1 | with_reducible refine Lives.alloc ?_ _ | with_reducible refine Lives.drew ?_ | with_reducible refine Lives.set ?_ _ _))
      · exact old_later hb.out (by (repeat (first | (with_reducible refine laterS ?_ (by simp <;> omega) _) | with_reducible refine laterA ?_ _ | with_reducible refine laterD ?_ | with_reducible exact Below.refl _ _ | with_reducible refine later ?_ hbmw2 | with_reducible refine later ?_ hbmw1 | with_reducible assumption))) hb.out.size
  case rest =>
    obtain ⟨R, R', rfl, rfl, t1, t2, hb2⟩ := hcut
    clear c0 c1 d0 d1 e0 e1 HS hx hy hb
    have hs := hb2.size
    replace t1 := Lib.hid t1
    replace t2 := Lib.hid t2
    replace hb2 := Lib.hid hb2
    go_wp2_with fail
    refine (bnew_ok 1073741824 0 _ (by decide)).mono ?_
    rintro e w1 ⟨rfl, hl, hbm⟩
    have n1 : R ≠ wc.heap.size := by have := t1.out.1; omega
    have n2 : R' ≠ wc.heap.size := by have := t2.out.1; omega
    replace hl := Lib.hid hl
    replace t1 := Lib.hid (t1.out.later hbm)
    replace t2 := Lib.hid (t2.out.later hbm)
    replace hb2 := Lib.hid (old_later hb2.out hbm hb2.out.size)
    have hL : w.heap.size ≤ wc.heap.size := hs
    generalize wc.heap.size = L at *
    clear hbm
    go_wp2_with fail
    have r0 := t1.out.2.1
    have r1 := t1.out.2.2
    have hld := Lib.hid hl.out.drew
    have wk : IntKind.i64.wrap (1 + k) = 1 + k := IntWalk.i64_in _ (by omega)
    go_region_held3 (fun w' => w'.cell? ⟨R, 0, none⟩ = some (.int .i64 num) ∧ w'.cell? ⟨R, 1, none⟩ = some (.int .i64 den)) (first | exact ⟨r0, r1⟩ | exact ⟨v0, v1⟩ | exact ⟨u0, u1⟩) (first | (go_at_call 18; (with_reducible refine (take_to L (Bkt.start 1073741824 0) 1073741824 0 S0 _ hld.out hv0.out rfl hS0.out).mono ?_); rintro e w2 ⟨rfl, hl2, ho⟩; have ho := one_undrew ho; replace hl2 := Lib.hid hl2; have t1' := t1.out.one ho n1; have v0 := t1'.2.1; have v1 := t1'.2.2; replace t1' := Lib.hid t1'; have t2' := Lib.hid (t2.out.one ho n2); have hb3 := Lib.hid (one_old hb2.out ho hL hb2.out.size); clear ho) | (go_at_call 16; (with_reducible refine (hK.out _).mono ?_); rintro e w3 ⟨rfl, rfl⟩) | (go_at_call 19; (with_reducible refine (fill_to L S0 (1 + k) num den 0 S1 _ hl2.out hv1.out hfe.out hfs.out).mono ?_); rintro e w3 ⟨rfl, hl3, ho⟩; replace hl3 := Lib.hid hl3; have t1'' := t1'.out.one ho n1; have u0 := t1''.2.1; have u1 := t1''.2.2; replace t1'' := Lib.hid t1''; have t2'' := Lib.hid (t2'.out.one ho n2); have hb4 := Lib.hid (one_old hb3.out ho hL hb3.out.size); clear ho))
    clear wk r0 r1 v0 v1 u0 u1 hld hl hl2 hb2 hb3 t1 t2 t1' t2'
    go_wp2_with fail
    refine (bcopy_any L S1 _ hl3.out hv2.out).mono ?_
    rintro e w4 ⟨rfl, hq4, hbm⟩
    have n3 : w3.heap.size ≠ R := by have := t1''.out.1; omega
    have n4 : w3.heap.size ≠ R' := by have := t2''.out.1; omega
    have n5 : w3.heap.size ≠ L := by have := Blk.lt hl3.out; omega
    have hQ : w.heap.size ≤ w3.heap.size := hb4.out.size
    replace hq4 := Lib.hid hq4
    have hl4 := Lib.hid (hl3.out.kept hbm)
    have t14 := t1''.out.later hbm
    have t24 := Lib.hid (t2''.out.later hbm)
    have hb5 := Lib.hid (old_later hb4.out hbm hb4.out.size)
    clear hbm hl3 t1'' t2'' hb4
    generalize w3.heap.size = Q at *
    have r0 := t14.2.1
    have r1 := t14.2.2
    replace t14 := Lib.hid t14
    go_wp2_with fail
    refine (rest_any L S1 _ hl4.out hv2.out).mono ?_
    rintro e w5 ⟨rfl, rfl⟩
    go_wp2_with fail
    refine (time_at L S1 _ hl4.out hv2.out).mono ?_
    rintro e w5 ⟨rfl, rfl⟩
    rw [hst.out]
    go_wp2_with fail
    refine (fill_to L S1 (1 + k) num den 0 S1 _ hl4.out hv2.out hfe2.out hfs2.out).mono ?_
    rintro e w5 ⟨rfl, hl5, ho⟩
    replace hl5 := Lib.hid hl5
    have hq5 := Lib.hid (hq4.out.but ho n5)
    have t25 := t24.out.one ho n2
    have t15 := t14.out.one ho n1
    have hb6 := Lib.hid (one_old hb5.out ho hL hb5.out.size)
    clear ho hl4 hq4 t14 t24 hb5 r0 r1
    have r0 := t15.2.1
    have r1 := t15.2.2
    have p0 := t25.2.1
    have p1 := t25.2.2
    replace t15 := Lib.hid t15
    replace t25 := Lib.hid t25
    go_wp2_with fail
    refine (rest_any L S1 _ hl5.out hv2.out).mono ?_
    rintro e w6 ⟨rfl, rfl⟩
    go_wp2_with fail
    refine (tokens_any L S1 _ hl5.out hv2.out).mono ?_
    rintro e w6 ⟨rfl, rfl⟩
    go_wp2_with fail
    refine (tokens_any Q S1 _ hq5.out hv2.out).mono ?_
    rintro e w6 ⟨rfl, rfl⟩
    go_wp2_with fail
    refine (fill_to Q S1 (1 + k) num2 den2 0 S2 _ hq5.out hv2.out hfe3.out hfs3.out).mono ?_
    rintro e w6 ⟨rfl, hq6, ho⟩
    replace hq6 := Lib.hid hq6
    have hl6 := Lib.hid (hl5.out.but ho (Ne.symm n5))
    have t26 := t25.out.one ho (Ne.symm n4)
    have t16 := t15.out.one ho (Ne.symm n3)
    have hb7 := Lib.hid (one_old hb6.out ho hQ hb6.out.size)
    clear ho hl5 hq5 t15 t25 hb6 r0 r1 p0 p1
    have r0 := t16.2.1
    have r1 := t16.2.2
    have p0 := t26.2.1
    have p1 := t26.2.2
    replace t16 := Lib.hid t16
    replace t26 := Lib.hid t26
    go_wp2_with fail
    refine (tk.out Q _ hq6.out hv3.out).mono ?_
    rintro e w7 ⟨rfl, rfl⟩
    go_wp2_with fail
    refine (tokens_any L S1 _ hl6.out hv2.out).mono ?_
    rintro e w7 ⟨rfl, rfl⟩
    by_cases hk : num = num2 ∧ den = den2
    · have e2 := hz2.out hk
      obtain ⟨rfl, rfl⟩ := hk
      subst e2
      go_wp2_with fail
      refine (rest_any Q S2 _ hq6.out hv3.out).mono ?_
      rintro e w8 ⟨rfl, rfl⟩
      go_wp2_with fail
      refine (bworks_any _).mono ?_
      rintro e w9 ⟨rfl, hbm⟩
      have hb9 := Lib.hid (old_later hb7.out hbm hb7.out.size)
      clear hbm
      go_wp2_with fail
      go_ret
      exact ⟨rfl, hb9.out⟩
    · have hr0 := rest_any Q S2
      rw [hz.out hk] at hr0
      replace hr0 := Lib.hid hr0
      have q1 : (num == num2 && den == den2) = false := by simpa using hk
      have q2 := eq_rate num den num2 den2
      clear hk
      go_wp2_with fail
      refine (hr0.out _ hq6.out hv3.out).mono ?_
      rintro e w8 ⟨rfl, rfl⟩
      go_wp2_with fail
      refine (bworks_any _).mono ?_
      rintro e w9 ⟨rfl, hbm⟩
      have hb9 := Lib.hid (old_later hb7.out hbm hb7.out.size)
      clear hbm
      go_wp2_with fail
      go_ret
      exact ⟨rfl, hb9.out⟩
end Go.Proofs.Ytniiemmgcjkphaa
