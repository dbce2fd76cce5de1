/-
  Layer 5: the program's Next.
-/
import Derived.Test.YtpagdcobhbkabaaDoorFrC
import Derived.Test.YtpagdcobhbkabaaDoorFrE
import Derived.Test.YtpagdcobhbkabaaDoorOwnS
import Derived.Deep.RegionWith
import Derived.LoopN
namespace Go.Proofs.YtpagdcobhbkabaaDoor
open Go.RowKit Go.Sort Go.Shelf Go.Deep Go.WideShapes

def encR (x : Int × Int) : List Value := [.int .i64 x.1, .int .i64 x.2]
theorem range_info : (Tryd.prog.info? 36).map (fun i => (i.zero, i.size, i.bytes)) = some (some (.agg #[.int .i64 0, .int .i64 0]), 2, 16) := by kernel_rfl
theorem one_r (p : Int × Int) : ∀ u ∈ encR p, u.oneCell' = true := fun u hu => by
  simp only [encR, List.mem_cons, List.not_mem_nil, or_false] at hu
  rcases hu with rfl | rfl <;> rfl
theorem len_r (p : Int × Int) : (encR p).length = 2 := rfl
/-- While Next reads: the reader at p, the ACK so far in the block at the end of the heap. -/
structure NS (w0 w : World) (Bd p q : Nat) (s : Oct.St) (d : Int) (mk : Bool) (acc : List (Int × Int)) : Prop where
  rd : Rdr w p q s
  bx : ∃ v, Blk w w0.heap.size 25 #[.int .i64 d, v, .bool mk, .int .i64 0, .int .i64 0, .int .i64 0] ∧ OwnS encR 36 2 w Bd v acc
  low : Below w0.heap.size w0 w
  sz : Bd ≤ w.heap.size
/-- The blocks lie apart. -/
structure Apt (B Bd p q : Nat) : Prop where
  pw : B ≤ p
  pB : p ≠ B
  pq : p ≠ q
  qB : q ≠ B
  pd : p < Bd
  qd : q < Bd
  bd : B < Bd
/-- What Next answers. -/
def NextPost (w0 : World) (len : Int) (x : Except Int (Frm.Ak × List Int)) (e : Ending) (w' : World) : Prop :=
  (match x with
    | .error err => e = .returned (.tuple #[av Frm.zero none 0 0, .int .i64 0, .int .i64 err])
    | .ok (a, r) => ∃ A n c, e = .returned (.tuple #[av a A n c, .int .i64 (len - r.length), .int .i64 0]) ∧ Rg w' A n c a.rs ∧ ∀ x, A = some x → w0.heap.size ≤ x.block) ∧ Below w0.heap.size w0 w'

theorem cell_ne {w : World} {g b : Nat} (i j : Nat) (u : Value) (h : g ≠ b) : (w.setCell ⟨b, j, none⟩ u).cell? ⟨g, i, none⟩ = w.cell? ⟨g, i, none⟩ := World.cell?_of_block (a := ⟨g, i, none⟩) (Below.heap_setCell w ⟨b, j, none⟩ u g h)
theorem Blk.setSame {w : World} {g : Nat} {t : TypeId} {cs : Array Value} (h : Blk w g t cs) (i : Nat) (u : Value) (hi : cs[i]? = some u) : w.setCell ⟨g, i, none⟩ u = w := by
  have h' : w.heap[g]? = some (.cells cs t (0, 0)) := h
  obtain ⟨hg, hgv⟩ := Array.getElem?_eq_some_iff.1 h'
  obtain ⟨hic, hiv⟩ := Array.getElem?_eq_some_iff.1 hi
  unfold World.setCell
  have : w.heap.modify g (fun
      | .cells c elem frozen => .cells (if (none : Option (Nat × Nat)).isSome then c else c.setIfInBounds i u) elem frozen
      | o => o) = w.heap := by
    apply Array.ext
    · simp
    · intro j h1 h2
      rw [Array.getElem_modify]
      split
      · rename_i he
        subst he
        rw [hgv]
        simp only [Option.isSome_none, Bool.false_eq_true, if_false]
        congr 1
        apply Array.ext
        · simp
        · intro k h3 h4
          rw [Array.getElem_setIfInBounds]
          split
          · rename_i he
            subst he
            exact hiv.symm
          · rfl
      · rfl
  exact congrArg (fun H => ({ w with heap := H } : World)) this
theorem OwnS.rg {w : World} {B : Nat} {v : Value} {l : List (Int × Int)} {e : TypeId} (h : OwnS encR e 2 w B v l) : ∃ A c, v = .slice A l.length c ∧ Rg w A l.length c l ∧ ∀ x, A = some x → B ≤ x.block := by
  have hc := h.cells len_r
  obtain ⟨h1, ⟨rfl, h2⟩ | ⟨g, cap, cur, rfl, h3, h4, h5, h6, h7⟩⟩ := h
  · exact ⟨none, 0, by rw [h2], ⟨by omega, by omega, by simp, .inl ⟨rfl, h2, rfl⟩⟩, fun x hx => by simp at hx⟩
  · refine ⟨_, cap, rfl, ⟨rfl, h5, h6, .inr ⟨g, 0, rfl, (Array.getElem?_eq_some_iff.1 h4).1, fun k hk => ?_⟩⟩, fun x hx => by injection hx with hx; subst hx; exact h3⟩
    obtain ⟨A, c, he, hk'⟩ := hc
    obtain ⟨g', he', _, hk2⟩ := hk' (by omega)
    subst he'
    injection he with he
    injection he with he
    injection he with he
    subst he
    have a0 := hk2 k hk 0 (by omega)
    have a1 := hk2 k hk 1 (by omega)
    rw [Nat.zero_add]
    exact ⟨a0, a1⟩
theorem Only.of_row {a b : World} {row : Option Nat} (h : a.grownBy b row) : Only (fun k => row = some k) a b :=
  ⟨h.os, h.tape, h.output, h.size, fun i hi hn => h.block i hi (fun e => hn e.symm)⟩
theorem laterD_ {B : Nat} {a b : World} (h : Below B a b) : Below B a b.drew := ⟨h.os, h.tape, h.output, h.size, h.block⟩
theorem below_wr {B g : Nat} {a b : World} (h : Below B a b) (hg : B ≤ g) (i : Nat) (u : Value) : Below B a (b.setCell ⟨g, i, none⟩ u) := ⟨h.os, h.tape, h.output, by simpa [World.setCell] using h.size, fun k hk => (Below.heap_setCell b ⟨g, i, none⟩ u k (Nat.ne_of_lt (Nat.lt_of_lt_of_le hk hg))).trans (h.block k hk)⟩
theorem numN {s : Oct.St} (hb : Oct.Bys s.l) : 0 ≤ (Oct.num s).1 ∧ (Oct.num s).1 ≤ 9007199254740991 := by
  unfold Oct.num
  by_cases he : s.e = 0
  · rw [if_pos he]
    by_cases h1 : (Oct.numL s.l).2.e = 0
    · exact (Frm.isN_iff _).1 (Frm.numL_good hb h1).1
    · cases hl : s.l with
      | nil => simp [Oct.numL]
      | cons b t =>
        rw [hl] at h1
        rw [Oct.numL_cons] at h1 ⊢
        split
        · simp
        · rename_i h2
          rw [if_neg h2] at h1
          split
          · simp
          · rename_i h3
            rw [if_neg h3] at h1
            exact absurd rfl h1
  · rw [if_neg he]
    simp
theorem num_zero {s : Oct.St} (h : (Oct.num s).2.e ≠ 0) : (Oct.num s).1 = 0 := by
  unfold Oct.num at h ⊢
  by_cases he : s.e = 0
  · rw [if_pos he] at h ⊢
    cases hl : s.l with
    | nil => simp [Oct.numL]
    | cons b t =>
      rw [hl] at h
      rw [Oct.numL_cons] at h ⊢
      split
      · rfl
      · rename_i h2
        rw [if_neg h2] at h
        split
        · rfl
        · rename_i h3
          rw [if_neg h3] at h
          exact absurd rfl h
  · rw [if_neg he]
theorem num_ok {s : Oct.St} (h : (Oct.num s).2.e = 0) : s.e = 0 := by
  by_cases he : s.e = 0
  · exact he
  · unfold Oct.num at h
    rw [if_neg he] at h
    exact h
theorem num_l {l : List Int} : Oct.num ⟨l, 0⟩ = Oct.numL l := rfl
theorem load_ack {w : World} {g : Nat} {t : TypeId} {cs : Array Value} (hg : Blk w g t cs) (hs : cs.size = 6) : (loadVar 25 ⟨g, 0, none⟩).run Tryd.prog w = .ok (.agg cs) w :=
  run_loadVar_row w g t 25 cs (0, 0) _ hg Tryd.underlying25 rfl (by rw [hs]; kernel_rfl)
theorem results_c3 {fn : Func} {p u v : Tmp} (h : fn.results = #[.cell p 25, .tmp u, .tmp v]) (tmps : Array Value) (w : World) {g : Nat} {cs : Array Value} {t : TypeId} (hp : tmps.getD p undef = .pointer (some ⟨g, 0, none⟩)) (hg : Blk w g t cs) (hs : cs.size = 6) :
    (results fn tmps).run Tryd.prog w = .ok (.tuple #[.agg cs, tmps.getD u undef, tmps.getD v undef]) w := by
  have hp' : tmps[p]?.getD undef = .pointer (some ⟨g, 0, none⟩) := by simpa using hp
  simp [results, h, hp', asAddr, load_ack hg hs]
/-- The ACK in the block is made none. -/
def zeroed (w : World) (B : Nat) : World := (((((w.setCell ⟨B, 0, none⟩ (.int .i64 0)).setCell ⟨B, 1, none⟩ (.slice none 0 0)).setCell ⟨B, 2, none⟩ (.bool false)).setCell ⟨B, 3, none⟩ (.int .i64 0)).setCell ⟨B, 4, none⟩ (.int .i64 0)).setCell ⟨B, 5, none⟩ (.int .i64 0)
theorem zero_blk {w : World} {B : Nat} {v0 v1 v2 v3 v4 v5 : Value} (h : Blk w B 25 #[v0, v1, v2, v3, v4, v5]) : Blk (zeroed w B) B 25 #[.int .i64 0, .slice none 0 0, .bool false, .int .i64 0, .int .i64 0, .int .i64 0] :=
  (((((h.set_ 0 _).set_ 1 _).set_ 2 _).set_ 3 _).set_ 4 _).set_ 5 _
theorem zero_low {w0 w : World} (h : Below w0.heap.size w0 w) : Below w0.heap.size w0 (zeroed w w0.heap.size) :=
  below_wr (below_wr (below_wr (below_wr (below_wr (below_wr h (Nat.le_refl _) 0 _) (Nat.le_refl _) 1 _) (Nat.le_refl _) 2 _) (Nat.le_refl _) 3 _) (Nat.le_refl _) 4 _) (Nat.le_refl _) 5 _
theorem next_bad {w0 w : World} {len e : Int} {X : Except Int (Frm.Ak × List Int)} (hX : X = .error e) (h : Below w0.heap.size w0 w) : NextPost w0 len X (.returned (.tuple #[av Frm.zero none 0 0, .int .i64 0, .int .i64 e])) w := by
  subst hX
  exact ⟨rfl, h⟩
theorem OwnS.nil {α : Type} {enc : α → List Value} {e : TypeId} {size : Nat} {w : World} (B : Nat) : OwnS enc e size w B (.slice none 0 0) [] := ⟨by simp, .inl ⟨rfl, rfl⟩⟩
theorem cont_bad (mk : Bool) (d : Int) (acc : List (Int × Int)) (s : Oct.St) (he : s.e ≠ 0) (hi : Int) (more : Nat) : Frm.cont mk d acc s hi more = .error s.e := Frm.cont_err mk d acc s.l he hi more
def AtN (A : Option Addr) (n c B p : Nat) (hi more : Int) (a : Act) : Prop := ∃ f : Nat → Value, a = { tmps := #[.slice A n c, f 1, .pointer (some ⟨B, 0, none⟩), .int .i64 0, .int .i64 0, .pointer (some ⟨p, 0, none⟩), f 6, f 7, .int .i64 hi, .int .i64 more, f 10, f 11, f 12, f 13, f 14, f 15, f 16, f 17, f 18, f 19, f 20, f 21, f 22, f 23, f 24, f 25, f 26, f 27, f 28, f 29, f 30, f 31, f 32, f 33, f 34, f 35, f 36, f 37, f 38, f 39, f 40, f 41, f 42, f 43, f 44, f 45, f 46, f 47, f 48, f 49, f 50, f 51, f 52, f 53, f 54, f 55, f 56, f 57, f 58, f 59, f 60, f 61, f 62, f 63, f 64, f 65, f 66, f 67, f 68, f 69, f 70, f 71, f 72, f 73, f 74, f 75, f 76, f 77, f 78, f 79, f 80, f 81, f 82, f 83, f 84, f 85, f 86, f 87, f 88, f 89, f 90, f 91, f 92, f 93, f 94, f 95, f 96, f 97, f 98, f 99, f 100, f 101, f 102, f 103, f 104, f 105, f 106, f 107, f 108, f 109, f 110], defers := [] }
theorem atN_mk {A : Option Addr} {n c B p : Nat} {hi more : Int} {a : Act} (h : a = { tmps := #[.slice A n c, a.tmps.getD 1 undef, .pointer (some ⟨B, 0, none⟩), .int .i64 0, .int .i64 0, .pointer (some ⟨p, 0, none⟩), a.tmps.getD 6 undef, a.tmps.getD 7 undef, .int .i64 hi, .int .i64 more, a.tmps.getD 10 undef, a.tmps.getD 11 undef, a.tmps.getD 12 undef, a.tmps.getD 13 undef, a.tmps.getD 14 undef, a.tmps.getD 15 undef, a.tmps.getD 16 undef, a.tmps.getD 17 undef, a.tmps.getD 18 undef, a.tmps.getD 19 undef, a.tmps.getD 20 undef, a.tmps.getD 21 undef, a.tmps.getD 22 undef, a.tmps.getD 23 undef, a.tmps.getD 24 undef, a.tmps.getD 25 undef, a.tmps.getD 26 undef, a.tmps.getD 27 undef, a.tmps.getD 28 undef, a.tmps.getD 29 undef, a.tmps.getD 30 undef, a.tmps.getD 31 undef, a.tmps.getD 32 undef, a.tmps.getD 33 undef, a.tmps.getD 34 undef, a.tmps.getD 35 undef, a.tmps.getD 36 undef, a.tmps.getD 37 undef, a.tmps.getD 38 undef, a.tmps.getD 39 undef, a.tmps.getD 40 undef, a.tmps.getD 41 undef, a.tmps.getD 42 undef, a.tmps.getD 43 undef, a.tmps.getD 44 undef, a.tmps.getD 45 undef, a.tmps.getD 46 undef, a.tmps.getD 47 undef, a.tmps.getD 48 undef, a.tmps.getD 49 undef, a.tmps.getD 50 undef, a.tmps.getD 51 undef, a.tmps.getD 52 undef, a.tmps.getD 53 undef, a.tmps.getD 54 undef, a.tmps.getD 55 undef, a.tmps.getD 56 undef, a.tmps.getD 57 undef, a.tmps.getD 58 undef, a.tmps.getD 59 undef, a.tmps.getD 60 undef, a.tmps.getD 61 undef, a.tmps.getD 62 undef, a.tmps.getD 63 undef, a.tmps.getD 64 undef, a.tmps.getD 65 undef, a.tmps.getD 66 undef, a.tmps.getD 67 undef, a.tmps.getD 68 undef, a.tmps.getD 69 undef, a.tmps.getD 70 undef, a.tmps.getD 71 undef, a.tmps.getD 72 undef, a.tmps.getD 73 undef, a.tmps.getD 74 undef, a.tmps.getD 75 undef, a.tmps.getD 76 undef, a.tmps.getD 77 undef, a.tmps.getD 78 undef, a.tmps.getD 79 undef, a.tmps.getD 80 undef, a.tmps.getD 81 undef, a.tmps.getD 82 undef, a.tmps.getD 83 undef, a.tmps.getD 84 undef, a.tmps.getD 85 undef, a.tmps.getD 86 undef, a.tmps.getD 87 undef, a.tmps.getD 88 undef, a.tmps.getD 89 undef, a.tmps.getD 90 undef, a.tmps.getD 91 undef, a.tmps.getD 92 undef, a.tmps.getD 93 undef, a.tmps.getD 94 undef, a.tmps.getD 95 undef, a.tmps.getD 96 undef, a.tmps.getD 97 undef, a.tmps.getD 98 undef, a.tmps.getD 99 undef, a.tmps.getD 100 undef, a.tmps.getD 101 undef, a.tmps.getD 102 undef, a.tmps.getD 103 undef, a.tmps.getD 104 undef, a.tmps.getD 105 undef, a.tmps.getD 106 undef, a.tmps.getD 107 undef, a.tmps.getD 108 undef, a.tmps.getD 109 undef, a.tmps.getD 110 undef], defers := [] }) : AtN A n c B p hi more a := ⟨fun i => a.tmps.getD i undef, h⟩
/-- At the label 'one', at 'broken', at 'marks'. -/
def JN0 (w0 : World) (A : Option Addr) (n c : Nat) (mk : Bool) (X : Except Int (Frm.Ak × List Int)) (a : Act) (w : World) : Prop :=
  ∃ (p q Bd : Nat) (d : Int) (acc : List (Int × Int)) (s : Oct.St) (hi : Int) (more : Nat), AtN A n c w0.heap.size p hi more a ∧ Apt w0.heap.size Bd p q ∧ NS w0 w Bd p q s d mk acc ∧ 0 ≤ hi ∧ hi ≤ 9007199254740991 ∧ more < 256 ∧ acc.length + more ≤ 256 ∧ Frm.cont mk d acc s hi more = X
def JN1 (w0 : World) (A : Option Addr) (n c : Nat) (mk : Bool) (X : Except Int (Frm.Ak × List Int)) (a : Act) (w : World) : Prop :=
  ∃ (p q Bd : Nat) (d : Int) (acc : List (Int × Int)) (s : Oct.St) (hi more : Int), AtN A n c w0.heap.size p hi more a ∧ Apt w0.heap.size Bd p q ∧ NS w0 w Bd p q s d mk acc ∧ X = .error s.e
def JN2 (w0 : World) (A : Option Addr) (n c : Nat) (mk : Bool) (X : Except Int (Frm.Ak × List Int)) (a : Act) (w : World) : Prop :=
  ∃ (p q Bd : Nat) (d : Int) (acc : List (Int × Int)) (s : Oct.St) (hi more : Int), AtN A n c w0.heap.size p hi more a ∧ Apt w0.heap.size Bd p q ∧ NS w0 w Bd p q s d mk acc ∧ s.e = 0 ∧ acc.length ≤ 1000 ∧ X = Frm.marks d mk acc s.l
def muN (l : Nat) (a : Act) (_ : World) : Nat := match l with | 0 => (intOf (a.tmps.getD 9 undef)).toNat + 1 | _ => 0

set_option maxHeartbeats 4000000 in
set_option maxRecDepth 100000 in
theorem next_some (A : Option Addr) (n c q0 : Nat) (t : Int) (l : List Int) (w : World) (h0 : 0 < w.heap.size) (h : Sl w q0 A n c (t :: l)) (hs : n ≤ 10000) (hb : Oct.Bys (t :: l)) (ht : t = 2 ∨ t = 3) :
    Calls Tryd.prog 24 #[.slice A n c] w (NextPost w n (Frm.body (decide (t = 3)) l)) := by
  have hn := h.1
  obtain ⟨A1, hsl, hs1⟩ := slice_from h (K := 1) (by rw [← hn]; simp)
  rw [List.drop_one, List.tail_cons] at hs1
  have hsl1 : ∀ W : World, (Instr.slice 27 (.slice A n c) (some (.int .i64 1)) none none).run Tryd.prog W = .ok (.slice A1 (n - 1) (c - 1)) W := hsl
  clear hsl
  obtain ⟨off, rfl, hq0, ht0⟩ : ∃ off, A = some ⟨q0, off, none⟩ ∧ q0 < w.heap.size ∧ w.cell? ⟨q0, off, none⟩ = some (.int .u8 t) := by
    obtain ⟨h1, h2, h3, ⟨_, h4, _⟩ | ⟨off, rfl, hq, h5⟩⟩ := h
    · rw [h4] at h1; simp at h1
    · exact ⟨off, rfl, hq, by have := h5 0 (by simp); simpa using this⟩
  have hpos : (0 : Int) < (n : Int) := by rw [← hn]; simp
  have hbx := Blk.new w 25 #[.int .i64 0, .slice none 0 0, .bool false, .int .i64 0, .int .i64 0, .int .i64 0]
  have hb0 := laterA (Below.refl w.heap.size w) (.cells #[.int .i64 0, .slice none 0 0, .bool false, .int .i64 0, .int .i64 0, .int .i64 0] 25)
  have hN := newr2_any A1 (n - 1) (c - 1) q0 l _ (by simp) (hs1.later hb0) (by omega) hb.tail
  have hbt := hb.tail
  obtain ⟨mk, hmk⟩ : ∃ mk, decide (t = 3) = mk := ⟨_, rfl⟩
  obtain ⟨X, hX⟩ : ∃ X, Frm.body mk l = X := ⟨_, rfl⟩
  rw [hmk, hX]
  replace ht : (t = 2 ∧ mk = false) ∨ (t = 3 ∧ mk = true) := by rcases ht with rfl | rfl <;> simp [← hmk]
  clear hmk
  replace h := Lib.hid h
  replace hs1 := Lib.hid hs1
  replace hbx := Lib.hid hbx
  replace hb0 := Lib.hid hb0
  replace hX := Lib.hid hX
  go_enter Tryd.func24, Tryd.ntmps24
  go_wp2
  refine scope_three' (JN0 w (some ⟨q0, off, none⟩) n c mk X) (JN1 w (some ⟨q0, off, none⟩) n c mk X) (JN2 w (some ⟨q0, off, none⟩) n c mk X) muN rfl rfl rfl ?_ ?_ ?_ ?_
  · rintro a w1 ⟨p, q, Bd, d, acc, s, hi, more, ⟨f, rfl⟩, hap, ⟨hrd, ⟨v, hbx, hown⟩, hlow, hsz⟩, hhi0, hhi1, hm, hac, hX'⟩
    have hpw := hap.pw
    have hpB := hap.pB
    have hpq := hap.pq
    have hpd := hap.pd
    have hqd := hap.qd
    have hBd := hap.bd
    have hqB := hap.qB
    have hNu := onum_any p q s w1 hrd hpq
    have hsz0 := numN hrd.bys
    obtain ⟨sz, s1, hR1⟩ : ∃ sz s1, Oct.num s = (sz, s1) := ⟨_, _, rfl⟩
    rw [hR1] at hNu hsz0
    replace hap := Lib.hid hap
    replace hbx := Lib.hid hbx
    replace hown := Lib.hid hown
    replace hlow := Lib.hid hlow
    replace hsz := Lib.hid hsz
    replace hX' := Lib.hid hX'
    replace hsz0 := Lib.hid hsz0
    clear hrd
    go_wp2_with fail
    with_reducible refine hNu.mono ?_
    clear hNu
    rintro e w2 ⟨rfl, hrd2, hon2⟩
    have hbx2 := hbx.out.only hon2 (Ne.symm hpB)
    have hown2 := hown.out.only hon2 (fun g hg he => by have := (hown.out.low g hg).1; omega)
    have hlow2 := only_old hlow.out hon2 (by rintro i rfl; exact hpw) hlow.out.size
    have hz2 := Nat.le_trans hsz.out hon2.size
    have hE := err_any p q s1 w2 hrd2
    replace hrd2 := Lib.hid hrd2
    replace hbx2 := Lib.hid hbx2
    replace hown2 := Lib.hid hown2
    replace hlow2 := Lib.hid hlow2
    replace hz2 := Lib.hid hz2
    clear hbx hown hlow hsz hon2
    go_wp2_with fail
    with_reducible refine hE.mono ?_
    rintro e w3 ⟨rfl, rfl⟩
    clear hE
    by_cases he1 : s1.e = 0
    · obtain ⟨l1, e1'⟩ := s1
      simp only at he1
      subst he1
      have hse := num_ok (s := s) (by rw [hR1])
      obtain ⟨l0, e0'⟩ := s
      simp only at hse
      subst hse
      rw [num_l] at hR1
      by_cases hlt : hi < sz
      · have hgt : sz > hi := hlt
        replace hX' := hX'.out
        have hXe : X = .error 50 := by
          rw [← hX']
          cases more with
          | zero => rw [Frm.cont_zero, hR1]; simp only; rw [if_pos trivial, if_pos hlt]
          | succ m => rw [Frm.cont_succ, hR1]; simp only; rw [if_pos trivial, if_pos hlt]
        clear hX'
        replace hXe := Lib.hid hXe
        have c1 := hbx2.out.cell 0
        have c2 := hbx2.out.cell 1
        have c3 := hbx2.out.cell 2
        have c4 := hbx2.out.cell 3
        have c5 := hbx2.out.cell 4
        have c6 := hbx2.out.cell 5
        have e1 := hbx2.out.frozen 0
        have e2 := hbx2.out.frozen 1
        have e3 := hbx2.out.frozen 2
        have e4 := hbx2.out.frozen 3
        have e5 := hbx2.out.frozen 4
        have e6 := hbx2.out.frozen 5
        simp at c1 c2 c3 c4 c5 c6
        go_wp2_with fail
        rw [jumpN_ret]
        refine bodyPost_ret (results_c3 rfl _ _ rfl (zero_blk hbx2.out) rfl) rfl ?_
        exact next_bad hXe.out (zero_low hlow2.out)
      · have hgt : ¬ sz > hi := hlt
        have hw1 : IntKind.i64.wrap (hi - sz) = hi - sz := IntWalk.i64_in _ (by have := hsz0.out; omega)
        have c2 := hbx2.out.cell 1
        have e2 := hbx2.out.frozen 1
        simp at c2
        have hx3 := Blk.new w2 36 #[.int .i64 (hi - sz), .int .i64 hi]
        have hb3 := laterA (Below.refl w2.heap.size w2) (.cells #[.int .i64 (hi - sz), .int .i64 hi] 36)
        have hown3 := hown2.out.later hb3
        have hbx3 := hbx2.out.later hb3
        have hrd3 := hrd2.out.later hb3
        have hlow3 := old_later2 hlow2.out hb3 hlow2.out.size
        have hz3 := Nat.le_trans hz2.out hb3.size
        replace hrd3 := Lib.hid hrd3
        replace hbx3 := Lib.hid hbx3
        replace hlow3 := Lib.hid hlow3
        replace hb3 := Lib.hid hb3
        clear hrd2 hlow2 hown2
        go_wp2_with (at_builtin; refine wpList_ows (enc := encR) (e := 36) (size := 2) (B := Bd) (l := acc) rfl _ _ 22 rfl Tryd.underlying22 range_info rfl (by omega) (by omega) w2.heap.size (hi - sz, hi) rfl rfl hown3 hx3 rfl (one_r _) hz3 (by omega) ?_)
        intro v3 w3 hown4 hg4 hv3
        obtain ⟨A3, k3, c3, rfl⟩ : ∃ A k c, v3 = .slice A k c := by
          obtain ⟨A, c, h, _⟩ := hown4.cells len_r
          exact ⟨A, _, c, h⟩
        have hbx4 := blkS_row hbx3.out hown3 hg4 (by decide)
        have hg5 := Only.of_row hg4
        have hrd4 := hrd3.out.only hg5 (fun h => by have := (hown3.low p h).1; omega) (fun h => by have := (hown3.low q h).1; omega)
        have hlow4 := only_old hlow3.out hg5 (fun g hg => by have := (hown3.low g hg).1; omega) hlow3.out.size
        have hz4 := Nat.le_trans hz3 hg4.size
        have c2' := hbx4.cell 1
        have e2' := hbx4.frozen 1
        simp at c2'
        replace hown4 := Lib.hid hown4
        replace hbx4 := Lib.hid hbx4
        replace hrd4 := Lib.hid hrd4
        replace hlow4 := Lib.hid hlow4
        replace hz4 := Lib.hid hz4
        clear hown3 hg4 hg5 hv3 hbx3 hrd3 hlow3 hz3 hx3 c2 e2 hz2 hbx2 hb3
        have hrd5 := hrd4.out.wr hpB hqB 1 (.slice A3 k3 c3)
        have hbx5 := hbx4.out.set_ 1 (.slice A3 k3 c3)
        have hlow5 := below_wr hlow4.out (Nat.le_refl _) 1 (.slice A3 k3 c3)
        have hown5 := hown4.out.only (Only.set (F := (· = w.heap.size)) (Only.refl _ w3) (p := ⟨w.heap.size, 1, none⟩) rfl (.slice A3 k3 c3)) (fun g hg he => by have := (hown4.out.low g hg).1; omega)
        have hz5 := Nat.le_trans hz4.out (show w3.heap.size ≤ (w3.setCell ⟨w.heap.size, 1, none⟩ (.slice A3 k3 c3)).heap.size by simp [World.setCell])
        have hNu5 := onum_any p q ⟨l1, 0⟩ _ hrd5 hpq
        have hgp := numN hrd5.bys
        obtain ⟨gp, s6, hR6⟩ : ∃ gp s6, Oct.num ⟨l1, 0⟩ = (gp, s6) := ⟨_, _, rfl⟩
        rw [hR6] at hNu5 hgp
        rw [num_l] at hR6
        replace hbx5 := Lib.hid hbx5
        replace hlow5 := Lib.hid hlow5
        replace hown5 := Lib.hid hown5
        replace hz5 := Lib.hid hz5
        replace hgp := Lib.hid hgp
        clear hown4 hbx4 hrd4 hlow4 hz4
        replace hX' := hX'.out
        cases more with
        | zero =>
          rw [Frm.cont_zero, hR1] at hX'
          simp only at hX'
          rw [if_pos trivial, if_neg (Int.not_lt.2 hlt)] at hX'
          replace hX' := Lib.hid hX'
          clear hNu5
          go_wp2_with fail
          go_step3
          exact ⟨⟨p, q, Bd, d, _, _, _, _, atN_mk rfl, hap.out, ⟨hrd5, ⟨_, hbx5.out, hown5.out⟩, hlow5.out, hz5.out⟩, rfl, by simp; omega, hX'.out.symm⟩, by simp [muN]⟩
        | succ m =>
          have hmne : ¬ ((m : Int) + 1 = 0) := by omega
          have hm1 : ((m + 1 : Nat) : Int) = (m : Int) + 1 := by omega
          rw [hm1]
          rw [Frm.cont_succ, hR1] at hX'
          simp only [hR6] at hX'
          rw [if_pos trivial, if_neg (Int.not_lt.2 hlt)] at hX'
          have hw2 : IntKind.i64.wrap ((m : Int) + 1 - 1) = m := by rw [IntWalk.i64_in _ (by omega)]; omega
          replace hX' := Lib.hid hX'
          clear hrd5
          go_wp2_with fail
          with_reducible refine hNu5.mono ?_
          clear hNu5
          rintro e w6 ⟨rfl, hrd6, hon6⟩
          have hbx6 := hbx5.out.only hon6 (Ne.symm hpB)
          have hown6 := hown5.out.only hon6 (fun g hg he => by have := (hown5.out.low g hg).1; omega)
          have hlow6 := only_old hlow5.out hon6 (by rintro i rfl; exact hpw) hlow5.out.size
          have hz6 := Nat.le_trans hz5.out hon6.size
          have hE6 := err_any p q s6 w6 hrd6
          replace hrd6 := Lib.hid hrd6
          replace hbx6 := Lib.hid hbx6
          replace hown6 := Lib.hid hown6
          replace hlow6 := Lib.hid hlow6
          replace hz6 := Lib.hid hz6
          clear hbx5 hlow5 hown5 hz5 hon6
          go_wp2_with fail
          with_reducible refine hE6.mono ?_
          rintro e w7 ⟨rfl, rfl⟩
          clear hE6
          replace hX' := hX'.out
          by_cases he6 : s6.e = 0
          · obtain ⟨l6, e6'⟩ := s6
            simp only at he6
            subst he6
            rw [if_pos rfl] at hX'
            have hgp0 := hgp.out
            have hsz1 := hsz0.out
            have hwa : IntKind.i64.wrap (sz + 2) = sz + 2 := IntWalk.i64_in _ (by omega)
            have hwb : IntKind.i64.wrap (sz + 2 + gp) = sz + 2 + gp := IntWalk.i64_in _ (by omega)
            have hwc : IntKind.i64.wrap (hi - (sz + 2 + gp)) = hi - (sz + 2 + gp) := IntWalk.i64_in _ (by omega)
            clear hgp0 hsz1
            by_cases hneg : hi - (sz + 2 + gp) < 0
            · rw [if_pos hneg] at hX'
              have hXe := Lib.hid hX'.symm
              clear hX'
              have c1 := hbx6.out.cell 0
              have c2 := hbx6.out.cell 1
              have c3 := hbx6.out.cell 2
              have c4 := hbx6.out.cell 3
              have c5 := hbx6.out.cell 4
              have c6 := hbx6.out.cell 5
              have e1 := hbx6.out.frozen 0
              have e2 := hbx6.out.frozen 1
              have e3 := hbx6.out.frozen 2
              have e4 := hbx6.out.frozen 3
              have e5 := hbx6.out.frozen 4
              have e6 := hbx6.out.frozen 5
              simp at c1 c2 c3 c4 c5 c6
              go_wp2_with fail
              rw [jumpN_ret]
              refine bodyPost_ret (results_c3 rfl _ _ rfl (zero_blk hbx6.out) rfl) rfl ?_
              exact next_bad hXe.out (zero_low hlow6.out)
            · rw [if_neg hneg] at hX'
              replace hX' := Lib.hid hX'
              go_wp2_with fail
              go_step3
              exact ⟨⟨p, q, Bd, d, _, _, _, _, atN_mk rfl, hap.out, ⟨hrd6.out, ⟨_, hbx6.out, hown6.out⟩, hlow6.out, hz6.out⟩, by omega, by have := hgp.out; have := hsz0.out; omega, by omega, by simp; omega, hX'.out⟩, by simp only [muN]; show (intOf (.int .i64 (m : Int))).toNat + 1 < (intOf (.int .i64 ((m : Int) + 1))).toNat + 1; simp only [intOf]; omega⟩
          · rw [if_neg he6] at hX'
            have hXe := Lib.hid hX'.symm
            clear hX'
            go_wp2_with fail
            go_step3
            exact ⟨⟨p, q, Bd, d, _, _, _, _, atN_mk rfl, hap.out, ⟨hrd6.out, ⟨_, hbx6.out, hown6.out⟩, hlow6.out, hz6.out⟩, hXe.out⟩, by simp [muN]⟩
    · have hXe : X = .error s1.e := by
        rw [← hX'.out]
        obtain ⟨l0, e0'⟩ := s
        by_cases h0 : e0' = 0
        · subst h0
          rw [num_l] at hR1
          cases more with
          | zero => rw [Frm.cont_zero, hR1]; simp only; rw [if_neg he1]
          | succ m => rw [Frm.cont_succ, hR1]; simp only; rw [if_neg he1]
        · rw [Frm.cont_err _ _ _ _ h0]
          unfold Oct.num at hR1
          rw [if_neg h0] at hR1
          injection hR1 with _ h2
          rw [← h2]
      go_wp2_with fail
      go_step3
      exact ⟨⟨p, q, Bd, d, acc, _, _, _, atN_mk rfl, hap.out, ⟨hrd2.out, ⟨_, hbx2.out, hown2.out⟩, hlow2.out, hz2.out⟩, hXe⟩, by simp [muN]⟩
  · rintro a w1 ⟨p, q, Bd, d, acc, s, hi, more, ⟨f, rfl⟩, hap, ⟨hrd, ⟨v, hbx, hown⟩, hlow, hsz⟩, hXe⟩
    have hE := err_any p q s w1 hrd
    have c1 := hbx.cell 0
    have c2 := hbx.cell 1
    have c3 := hbx.cell 2
    have c4 := hbx.cell 3
    have c5 := hbx.cell 4
    have c6 := hbx.cell 5
    have e1 := hbx.frozen 0
    have e2 := hbx.frozen 1
    have e3 := hbx.frozen 2
    have e4 := hbx.frozen 3
    have e5 := hbx.frozen 4
    have e6 := hbx.frozen 5
    simp at c1 c2 c3 c4 c5 c6
    replace hap := Lib.hid hap
    replace hrd := Lib.hid hrd
    replace hbx := Lib.hid hbx
    replace hown := Lib.hid hown
    replace hlow := Lib.hid hlow
    replace hsz := Lib.hid hsz
    replace hXe := Lib.hid hXe
    go_wp2_with fail
    with_reducible refine hE.mono ?_
    rintro e w2 ⟨rfl, rfl⟩
    clear hE
    go_wp2_with fail
    rw [jumpN_ret]
    refine bodyPost_ret (results_c3 rfl _ _ rfl (zero_blk hbx.out) rfl) rfl ?_
    exact next_bad hXe.out (zero_low hlow.out)
  · rintro a w1 ⟨p, q, Bd, d, acc, s, hi, more, ⟨f, rfl⟩, hap, ⟨hrd, ⟨v, hbx, hown⟩, hlow, hsz⟩, hse, hac, hX'⟩
    have hpw := hap.pw
    have hpB := hap.pB
    have hpq := hap.pq
    have hpd := hap.pd
    have hqd := hap.qd
    have hBd := hap.bd
    have hqB := hap.qB
    obtain ⟨l0, e0'⟩ := s
    simp only at hse
    subst hse
    obtain ⟨A3, cap3, rfl, hcells⟩ := hown.cells len_r
    cases mk with
    | false =>
      have hE := err_any p q _ w1 hrd
      have c1 := hbx.cell 0
      have c2 := hbx.cell 1
      have c3 := hbx.cell 2
      have c4 := hbx.cell 3
      have c5 := hbx.cell 4
      have c6 := hbx.cell 5
      have e1 := hbx.frozen 0
      have e2 := hbx.frozen 1
      have e3 := hbx.frozen 2
      have e4 := hbx.frozen 3
      have e5 := hbx.frozen 4
      have e6 := hbx.frozen 5
      simp at c1 c2 c3 c4 c5 c6
      replace hap := Lib.hid hap
      replace hrd := Lib.hid hrd
      replace hown := Lib.hid hown
      replace hlow := Lib.hid hlow
      replace hsz := Lib.hid hsz
      replace hX' := Lib.hid hX'
      replace hbx := Lib.hid hbx
      replace hcells := Lib.hid hcells
      go_wp2_with fail
      refine wp_loop_rounds 4 ?_
      rw [rounds_succ]
      go_wp2_with fail
      rw [rounds_succ]
      go_wp2_with fail
      rw [rounds_succ]
      go_wp2_with fail
      rw [rounds_succ]
      go_wp2_with fail
      with_reducible refine hE.mono ?_
      rintro e w2 ⟨rfl, rfl⟩
      clear hE
      have hLd := left_any p q _ w1.drew hrd.out
      go_wp2_with fail
      have hbxd := hbx.out.drew
      have f0 := hbxd.setSame 0 (.int .i64 d) rfl
      have f1 := hbxd.setSame 1 (.slice A3 acc.length cap3) rfl
      have f2 := hbxd.setSame 2 (.bool false) rfl
      have f3 := hbxd.setSame 3 (.int .i64 0) rfl
      have f4 := hbxd.setSame 4 (.int .i64 0) rfl
      have f5 := hbxd.setSame 5 (.int .i64 0) rfl
      have hl0 : l0.length ≤ 10000 := hrd.out.len
      have hwl : IntKind.i64.wrap ((n : Int) - (l0.length : Int)) = (n : Int) - (l0.length : Int) := IntWalk.i64_in _ (by omega)
      clear hs hpw hpB hpq hpd hqd hBd hqB hac hl0 hN hsl1 ht0 hq0 hbt hb ht
      go_region_held3 (fun w' => w'.cell? ⟨w.heap.size, 0, none⟩ = some (.int .i64 d) ∧ w'.cell? ⟨w.heap.size, 1, none⟩ = some (.slice A3 acc.length cap3) ∧ w'.cell? ⟨w.heap.size, 2, none⟩ = some (.bool false) ∧ w'.cell? ⟨w.heap.size, 3, none⟩ = some (.int .i64 0) ∧ w'.cell? ⟨w.heap.size, 4, none⟩ = some (.int .i64 0) ∧ w'.cell? ⟨w.heap.size, 5, none⟩ = some (.int .i64 0)) (first | exact ⟨c1, c2, c3, c4, c5, c6⟩ | (rw [f0, f1, f2, f3, f4, f5]; exact ⟨c1, c2, c3, c4, c5, c6⟩)) (first | (go_at_call 49; (with_reducible refine hLd.mono ?_); rintro e w4 ⟨rfl, rfl⟩))
      go_wp2_with fail
      rw [jumpN_ret]
      refine bodyPost_ret (results_c3 rfl _ _ rfl hbxd rfl) rfl ?_
      obtain ⟨A4, cap4, he4, hrg, hfr⟩ := hown.out.rg
      injection he4 with he5 _ he6
      subst he5 he6
      refine ⟨?_, laterD_ hlow.out⟩
      rw [hX'.out]
      exact ⟨_, _, _, rfl, hrg.later (laterD_ (Below.refl _ _)), fun x hx => Nat.le_trans (Nat.le_of_lt hap.out.bd) (hfr x hx)⟩
    | true =>
      obtain ⟨x, s1, hR1⟩ : ∃ x s1, Oct.numL l0 = (x, s1) := ⟨_, _, rfl⟩
      obtain ⟨y, s2, hR2⟩ : ∃ y s2, Oct.num s1 = (y, s2) := ⟨_, _, rfl⟩
      obtain ⟨z, s3, hR3⟩ : ∃ z s3, Oct.num s2 = (z, s3) := ⟨_, _, rfl⟩
      unfold Frm.marks at hX'
      simp only [hR1, hR2, hR3] at hX'
      have hNu := onum_any p q _ w1 hrd hpq
      rw [num_l, hR1] at hNu
      have cm := hbx.cell 2
      simp at cm
      replace hap := Lib.hid hap
      replace hrd := Lib.hid hrd
      replace hown := Lib.hid hown
      replace hlow := Lib.hid hlow
      replace hsz := Lib.hid hsz
      replace hX' := Lib.hid hX'
      replace hbx := Lib.hid hbx
      replace hcells := Lib.hid hcells
      replace hR1 := Lib.hid hR1
      replace hR2 := Lib.hid hR2
      replace hR3 := Lib.hid hR3
      go_wp2_with fail
      refine wp_loop_rounds 4 ?_
      rw [rounds_succ]
      go_wp2_with fail
      with_reducible refine hNu.mono ?_
      clear hNu
      rintro e w2 ⟨rfl, hrdN, honN⟩
      have hbxN := hbx.out.only honN (Ne.symm hpB)
      have hownN := hown.out.only honN (fun g hg he => by have := (hown.out.low g hg).1; omega)
      have hlowN := only_old hlow.out honN (by rintro i rfl; exact hpw) hlow.out.size
      have hzN := Nat.le_trans hsz.out honN.size
      have cc := hbxN.cell 3
      have ff := hbxN.frozen 3
      simp at cc
      have hrdS := hrdN.wr hpB hqB 3 (.int .i64 x)
      have hbxS := hbxN.set_ 3 (.int .i64 x)
      have hlowS := below_wr hlowN (Nat.le_refl _) 3 (.int .i64 x)
      have hownS := hownN.only (Only.set (F := (· = w.heap.size)) (Only.refl _ w2) (p := ⟨w.heap.size, 3, none⟩) rfl (.int .i64 x)) (fun g hg he => by have := (hownN.low g hg).1; omega)
      have hzS := Nat.le_trans hzN (show w2.heap.size ≤ (w2.setCell ⟨w.heap.size, 3, none⟩ (.int .i64 x)).heap.size by simp [World.setCell])
      obtain ⟨W, hW⟩ : ∃ W, W = w2.setCell ⟨w.heap.size, 3, none⟩ (.int .i64 x) := ⟨_, rfl⟩
      rw [← hW] at hrdS hbxS hlowS hownS hzS
      have hNu := onum_any p q s1 _ hrdS hpq
      rw [hR2.out] at hNu
      have cm := hbxS.cell 2
      simp at cm
      replace hW := Lib.hid hW
      replace hbxN := Lib.hid hbxN
      replace hownN := Lib.hid hownN
      replace hlowN := Lib.hid hlowN
      replace hzN := Lib.hid hzN
      replace hrdS := Lib.hid hrdS
      replace hbxS := Lib.hid hbxS
      replace hlowS := Lib.hid hlowS
      replace hownS := Lib.hid hownS
      replace hzS := Lib.hid hzS
      clear hrdN honN
      go_wp2_with fail
      clear hbxN hownN hlowN hzN cc ff
      rw [← hW.out]
      clear hW
      rw [rounds_succ]
      go_wp2_with fail
      with_reducible refine hNu.mono ?_
      clear hNu
      rintro e w3 ⟨rfl, hrdN, honN⟩
      have hbxN := hbxS.out.only honN (Ne.symm hpB)
      have hownN := hownS.out.only honN (fun g hg he => by have := (hownS.out.low g hg).1; omega)
      have hlowN := only_old hlowS.out honN (by rintro i rfl; exact hpw) hlowS.out.size
      have hzN := Nat.le_trans hzS.out honN.size
      have cc := hbxN.cell 4
      have ff := hbxN.frozen 4
      simp at cc
      have hrdS := hrdN.wr hpB hqB 4 (.int .i64 y)
      have hbxS := hbxN.set_ 4 (.int .i64 y)
      have hlowS := below_wr hlowN (Nat.le_refl _) 4 (.int .i64 y)
      have hownS := hownN.only (Only.set (F := (· = w.heap.size)) (Only.refl _ w3) (p := ⟨w.heap.size, 4, none⟩) rfl (.int .i64 y)) (fun g hg he => by have := (hownN.low g hg).1; omega)
      have hzS := Nat.le_trans hzN (show w3.heap.size ≤ (w3.setCell ⟨w.heap.size, 4, none⟩ (.int .i64 y)).heap.size by simp [World.setCell])
      obtain ⟨W, hW⟩ : ∃ W, W = w3.setCell ⟨w.heap.size, 4, none⟩ (.int .i64 y) := ⟨_, rfl⟩
      rw [← hW] at hrdS hbxS hlowS hownS hzS
      have hNu := onum_any p q s2 _ hrdS hpq
      rw [hR3.out] at hNu
      have cm := hbxS.cell 2
      simp at cm
      replace hW := Lib.hid hW
      replace hbxN := Lib.hid hbxN
      replace hownN := Lib.hid hownN
      replace hlowN := Lib.hid hlowN
      replace hzN := Lib.hid hzN
      replace hrdS := Lib.hid hrdS
      replace hbxS := Lib.hid hbxS
      replace hlowS := Lib.hid hlowS
      replace hownS := Lib.hid hownS
      replace hzS := Lib.hid hzS
      clear hrdN honN
      go_wp2_with fail
      clear hbxN hownN hlowN hzN cc ff
      rw [← hW.out]
      clear hW
      rw [rounds_succ]
      go_wp2_with fail
      with_reducible refine hNu.mono ?_
      clear hNu
      rintro e w4 ⟨rfl, hrdN, honN⟩
      have hbxN := hbxS.out.only honN (Ne.symm hpB)
      have hownN := hownS.out.only honN (fun g hg he => by have := (hownS.out.low g hg).1; omega)
      have hlowN := only_old hlowS.out honN (by rintro i rfl; exact hpw) hlowS.out.size
      have hzN := Nat.le_trans hzS.out honN.size
      have cc := hbxN.cell 5
      have ff := hbxN.frozen 5
      simp at cc
      have hrdS := hrdN.wr hpB hqB 5 (.int .i64 z)
      have hbxS := hbxN.set_ 5 (.int .i64 z)
      have hlowS := below_wr hlowN (Nat.le_refl _) 5 (.int .i64 z)
      have hownS := hownN.only (Only.set (F := (· = w.heap.size)) (Only.refl _ w4) (p := ⟨w.heap.size, 5, none⟩) rfl (.int .i64 z)) (fun g hg he => by have := (hownN.low g hg).1; omega)
      have hzS := Nat.le_trans hzN (show w4.heap.size ≤ (w4.setCell ⟨w.heap.size, 5, none⟩ (.int .i64 z)).heap.size by simp [World.setCell])
      obtain ⟨W, hW⟩ : ∃ W, W = w4.setCell ⟨w.heap.size, 5, none⟩ (.int .i64 z) := ⟨_, rfl⟩
      rw [← hW] at hrdS hbxS hlowS hownS hzS
      have hE := err_any p q s3 _ hrdS
      have cm := hbxS.cell 2
      simp at cm
      replace hW := Lib.hid hW
      replace hbxN := Lib.hid hbxN
      replace hownN := Lib.hid hownN
      replace hlowN := Lib.hid hlowN
      replace hzN := Lib.hid hzN
      replace hrdS := Lib.hid hrdS
      replace hbxS := Lib.hid hbxS
      replace hlowS := Lib.hid hlowS
      replace hownS := Lib.hid hownS
      replace hzS := Lib.hid hzS
      clear hrdN honN
      go_wp2_with fail
      clear hbxN hownN hlowN hzN cc ff
      rw [← hW.out]
      clear hW
      rw [rounds_succ]
      go_wp2_with fail
      have hEb := hE
      with_reducible refine hE.mono ?_
      rintro e w5 ⟨rfl, rfl⟩
      clear hE
      by_cases he : s3.e = 0
      · have hLd := left_any p q _ W.drew hrdS.out
        have c1 := hbxS.out.cell 0
        have c2 := hbxS.out.cell 1
        have c3 := hbxS.out.cell 2
        have c4 := hbxS.out.cell 3
        have c5 := hbxS.out.cell 4
        have c6 := hbxS.out.cell 5
        have e1 := hbxS.out.frozen 0
        have e2 := hbxS.out.frozen 1
        have e3 := hbxS.out.frozen 2
        have e4 := hbxS.out.frozen 3
        have e5 := hbxS.out.frozen 4
        have e6 := hbxS.out.frozen 5
        simp at c1 c2 c3 c4 c5 c6
        have hbxd := hbxS.out.drew
        have f0 := hbxd.setSame 0 (.int .i64 d) rfl
        have f1 := hbxd.setSame 1 (.slice A3 acc.length cap3) rfl
        have f2 := hbxd.setSame 2 (.bool true) rfl
        have f3 := hbxd.setSame 3 (.int .i64 x) rfl
        have f4 := hbxd.setSame 4 (.int .i64 y) rfl
        have f5 := hbxd.setSame 5 (.int .i64 z) rfl
        have hl0 : s3.l.length ≤ 10000 := hrdS.out.len
        have hwl : IntKind.i64.wrap ((n : Int) - (s3.l.length : Int)) = (n : Int) - (s3.l.length : Int) := IntWalk.i64_in _ (by omega)
        clear hs hpw hpB hpq hpd hqd hBd hqB hac hl0 hN hsl1 ht0 hq0 hbt hb ht hEb cm
        obtain ⟨l3, e3'⟩ := s3
        simp only at he
        subst he
        go_wp2_with fail
        go_region_held3 (fun w' => w'.cell? ⟨w.heap.size, 0, none⟩ = some (.int .i64 d) ∧ w'.cell? ⟨w.heap.size, 1, none⟩ = some (.slice A3 acc.length cap3) ∧ w'.cell? ⟨w.heap.size, 2, none⟩ = some (.bool true) ∧ w'.cell? ⟨w.heap.size, 3, none⟩ = some (.int .i64 x) ∧ w'.cell? ⟨w.heap.size, 4, none⟩ = some (.int .i64 y) ∧ w'.cell? ⟨w.heap.size, 5, none⟩ = some (.int .i64 z)) (first | exact ⟨c1, c2, c3, c4, c5, c6⟩ | (rw [f0, f1, f2, f3, f4, f5]; exact ⟨c1, c2, c3, c4, c5, c6⟩)) (first | (go_at_call 49; (with_reducible refine hLd.mono ?_); rintro e w4 ⟨rfl, rfl⟩))
        go_wp2_with fail
        rw [jumpN_ret]
        refine bodyPost_ret (results_c3 rfl _ _ rfl hbxd rfl) rfl ?_
        obtain ⟨A4, cap4, he4, hrg, hfr⟩ := hownS.out.rg
        injection he4 with he5 _ he6
        subst he5 he6
        refine ⟨?_, laterD_ hlowS.out⟩
        rw [hX'.out, if_pos trivial, if_pos trivial]
        exact ⟨_, _, _, rfl, hrg.later (laterD_ (Below.refl _ _)), fun x hx => Nat.le_trans (Nat.le_of_lt hap.out.bd) (hfr x hx)⟩
      · have hXe : X = .error s3.e := by rw [hX'.out, if_pos trivial, if_neg he]
        have c1 := hbxS.out.cell 0
        have c2 := hbxS.out.cell 1
        have c3 := hbxS.out.cell 2
        have c4 := hbxS.out.cell 3
        have c5 := hbxS.out.cell 4
        have c6 := hbxS.out.cell 5
        have e1 := hbxS.out.frozen 0
        have e2 := hbxS.out.frozen 1
        have e3 := hbxS.out.frozen 2
        have e4 := hbxS.out.frozen 3
        have e5 := hbxS.out.frozen 4
        have e6 := hbxS.out.frozen 5
        simp at c1 c2 c3 c4 c5 c6
        replace hXe := Lib.hid hXe
        clear hX'
        go_wp2_with fail
        go_step3
        go_wp2_with fail
        with_reducible refine hEb.mono ?_
        rintro e w6 ⟨rfl, rfl⟩
        clear hEb
        go_wp2_with fail
        rw [jumpN_ret]
        refine bodyPost_ret (results_c3 rfl _ _ rfl (zero_blk hbxS.out) rfl) rfl ?_
        exact next_bad hXe.out (zero_low hlowS.out)
  · intro hpass
    rcases ht with ⟨rfl, rfl⟩ | ⟨rfl, rfl⟩
    · go_wp2_with fail
      with_reducible refine hN.mono ?_
      clear hN
      rintro e w1 ⟨p, q, rfl, hrd, hat, hb1⟩
      have hap : Apt w.heap.size w1.heap.size p q := by
        have h1 := hat.q0
        have h2 := hat.p0
        simp at h1 h2
        exact ⟨by omega, by omega, hat.ne, by omega, hat.p1, hat.q1, Nat.lt_of_lt_of_le (by simp) hb1.size⟩
      have hpw := hap.pw
      have hpB := hap.pB
      have hpq := hap.pq
      have hqB := hap.qB
      have hp0 : q0 ≠ p := by omega
      have hbx1 := hbx.out.later hb1
      have hlow := old_later2 hb0.out hb1 (by simp)
      have hNu := onum_any p q _ w1 hrd hpq
      rw [num_l] at hNu
      obtain ⟨hi, s1, hR1⟩ : ∃ hi s1, Oct.numL l = (hi, s1) := ⟨_, _, rfl⟩
      have hi0 : 0 ≤ hi ∧ hi ≤ 9007199254740991 := by have := numN (s := ⟨l, 0⟩) hbt; rw [num_l, hR1] at this; exact this
      rw [hR1] at hNu
      replace hbx1 := Lib.hid hbx1
      replace hlow := Lib.hid hlow
      replace hap := Lib.hid hap
      replace hi0 := Lib.hid hi0
      clear hb1 hat hbx hb0 hs1 hrd
      go_wp2_with fail
      with_reducible refine hNu.mono ?_
      clear hNu
      rintro e w2 ⟨rfl, hrd2, hon⟩
      have hbx2 := hbx1.out.only hon (Ne.symm hpB)
      have hlow2 := only_old hlow.out hon (by rintro i rfl; exact hpw) hlow.out.size
      have hz2 := hon.size
      have hNu2 := fun W h => onum_any p q s1 W h hpq
      obtain ⟨dl, s2, hR2⟩ : ∃ dl s2, Oct.num s1 = (dl, s2) := ⟨_, _, rfl⟩
      simp only [hR2] at hNu2
      have hBl := hbx2.lt
      replace hbx2 := Lib.hid hbx2
      replace hlow2 := Lib.hid hlow2
      replace hrd2 := Lib.hid hrd2
      replace hNu2 := Lib.hid hNu2
      replace hz2 := Lib.hid hz2
      clear hbx1 hlow hon
      have t2 := (hlow2.out.cell (p := ⟨q0, off, none⟩) hq0).trans ht0
      have hrd2d := Lib.hid (show Rdr w2.drew p q s1 from hrd2.out)
      have hbx2d := Lib.hid (Blk.drew hbx2.out)
      have hz2d := Lib.hid (show w1.heap.size ≤ w2.drew.heap.size from hz2.out)
      go_wp2_with fail
      have hqB0 : q0 ≠ w.heap.size := by omega
      have hposn : 0 < n := by omega
      go_region_held3 (fun w' => w'.cell? ⟨q0, off, none⟩ = some (.int .u8 2)) (first | exact t2 | exact t3 | (rw [cell_ne _ _ _ hqB0]; exact t3) | (rw [cell_ne _ _ _ hqB0, cell_ne _ _ _ hqB0]; exact t3)) (first | (go_at_call 47; (with_reducible refine (hNu2.out _ hrd2d.out).mono ?_); rintro e w3 ⟨rfl, hrd3, hon3⟩; have hbx3 := hbx2d.out.only hon3 (Ne.symm hpB); have b30 := hbx3.cell 0; have b32 := hbx3.cell 2; have f30 := hbx3.frozen 0; have f32 := hbx3.frozen 2; simp at b30 b32; have hlow3 := only_old (laterD_ hlow2.out) hon3 (by rintro i rfl; exact hpw) hlow2.out.size; have t3 := (hlow3.cell (p := ⟨q0, off, none⟩) hq0).trans ht0; have hz3 := Lib.hid (Nat.le_trans hz2d.out hon3.size); replace hrd3 := Lib.hid hrd3; replace hbx3 := Lib.hid hbx3; replace hlow3 := Lib.hid hlow3; clear hon3))
      have hrdS := (hrd3.out.wr hpB hqB 0 (.int .i64 dl)).wr hpB hqB 2 (.bool false)
      have hbxS := (hbx3.out.set_ 0 (.int .i64 dl)).set_ 2 (.bool false)
      have hlowS := below_wr (below_wr hlow3.out (Nat.le_refl _) 0 (.int .i64 dl)) (Nat.le_refl _) 2 (.bool false)
      have hNu3 := onum_any p q s2 _ hrdS hpq
      have hi3 := numN hrdS.bys
      obtain ⟨mr, s3, hR3⟩ : ∃ mr s3, Oct.num s2 = (mr, s3) := ⟨_, _, rfl⟩
      rw [hR3] at hNu3 hi3
      have hzS := Nat.le_trans hz3.out (show w3.heap.size ≤ ((w3.setCell ⟨w.heap.size, 0, none⟩ (.int .i64 dl)).setCell ⟨w.heap.size, 2, none⟩ (.bool false)).heap.size by simp [World.setCell])
      replace hbxS := Lib.hid hbxS
      replace hlowS := Lib.hid hlowS
      replace hi3 := Lib.hid hi3
      replace hzS := Lib.hid hzS
      clear hrdS hrd3 hbx3 hlow3 b30 b32 f30 f32 t3 hz3 hbx2d hrd2d hz2d t2 hNu2 hrd2 hbx2 hlow2
      go_wp2_with fail
      with_reducible refine hNu3.mono ?_
      clear hNu3
      rintro e w4 ⟨rfl, hrd4, hon4⟩
      have hbx4 := hbxS.out.only hon4 (Ne.symm hpB)
      have hlow4 := only_old hlowS.out hon4 (by rintro i rfl; exact hpw) hlowS.out.size
      have hz4 := Nat.le_trans hzS.out hon4.size
      have hE := err_any p q s3 w4 hrd4
      have hbd := Frm.body_cont false l
      rw [hX.out] at hbd
      simp only [hR1, hR2, hR3] at hbd
      have c1 := hbx4.cell 0
      have c2 := hbx4.cell 1
      have c3 := hbx4.cell 2
      have c4 := hbx4.cell 3
      have c5 := hbx4.cell 4
      have c6 := hbx4.cell 5
      have e1 := hbx4.frozen 0
      have e2 := hbx4.frozen 1
      have e3 := hbx4.frozen 2
      have e4 := hbx4.frozen 3
      have e5 := hbx4.frozen 4
      have e6 := hbx4.frozen 5
      simp at c1 c2 c3 c4 c5 c6
      replace hbx4 := Lib.hid hbx4
      replace hlow4 := Lib.hid hlow4
      replace hrd4 := Lib.hid hrd4
      replace hz4 := Lib.hid hz4
      replace hbd := Lib.hid hbd
      clear hon4 hbxS hlowS hzS
      go_wp2_with fail
      with_reducible refine hE.mono ?_
      rintro e w5 ⟨rfl, rfl⟩
      clear hE
      by_cases he : s3.e = 0
      · by_cases hm : 256 ≤ mr
        · obtain ⟨l3, e3'⟩ := s3
          simp only at he
          subst he
          go_wp2_with fail
          rw [jumpN_ret]
          refine bodyPost_ret (results_c3 rfl _ _ rfl (zero_blk hbx4.out) rfl) rfl ?_
          replace hbd := hbd.out
          rw [if_pos ⟨trivial, hm⟩] at hbd
          exact next_bad hbd (zero_low hlow4.out)
        · have hm' : ¬ mr ≥ 256 := hm
          replace hbd := hbd.out
          rw [if_neg (fun h => hm h.2)] at hbd
          obtain ⟨m, rfl⟩ : ∃ m : Nat, mr = m := ⟨mr.toNat, by have := hi3.out.1; omega⟩
          rw [Int.toNat_natCast] at hbd
          obtain ⟨l3, e3'⟩ := s3
          simp only at he
          subst he
          go_wp2_with fail
          go_step3
          go_step
          go_step
          refine hpass _ _ ?_
          exact ⟨p, q, w1.heap.size, dl, [], _, hi, m, atN_mk rfl, hap.out, ⟨hrd4.out, ⟨_, hbx4.out, OwnS.nil _⟩, hlow4.out, hz4.out⟩, hi0.out.1, hi0.out.2, by omega, by simp; omega, hbd.symm⟩
      · have hbd2 := hbd.out
        rw [if_neg (fun h => he h.1)] at hbd2
        have hmr : mr = 0 := by
          have h1 := num_zero (s := s2) (by rw [hR3]; exact he)
          rw [hR3] at h1
          exact h1
        subst hmr
        go_wp2_with fail
        go_step3
        go_step
        go_step
        refine hpass _ _ ?_
        exact ⟨p, q, w1.heap.size, dl, [], _, hi, 0, atN_mk rfl, hap.out, ⟨hrd4.out, ⟨_, hbx4.out, OwnS.nil _⟩, hlow4.out, hz4.out⟩, hi0.out.1, hi0.out.2, by omega, by simp, hbd2.symm⟩
    · go_wp2_with fail
      with_reducible refine hN.mono ?_
      clear hN
      rintro e w1 ⟨p, q, rfl, hrd, hat, hb1⟩
      have hap : Apt w.heap.size w1.heap.size p q := by
        have h1 := hat.q0
        have h2 := hat.p0
        simp at h1 h2
        exact ⟨by omega, by omega, hat.ne, by omega, hat.p1, hat.q1, Nat.lt_of_lt_of_le (by simp) hb1.size⟩
      have hpw := hap.pw
      have hpB := hap.pB
      have hpq := hap.pq
      have hqB := hap.qB
      have hp0 : q0 ≠ p := by omega
      have hbx1 := hbx.out.later hb1
      have hlow := old_later2 hb0.out hb1 (by simp)
      have hNu := onum_any p q _ w1 hrd hpq
      rw [num_l] at hNu
      obtain ⟨hi, s1, hR1⟩ : ∃ hi s1, Oct.numL l = (hi, s1) := ⟨_, _, rfl⟩
      have hi0 : 0 ≤ hi ∧ hi ≤ 9007199254740991 := by have := numN (s := ⟨l, 0⟩) hbt; rw [num_l, hR1] at this; exact this
      rw [hR1] at hNu
      replace hbx1 := Lib.hid hbx1
      replace hlow := Lib.hid hlow
      replace hap := Lib.hid hap
      replace hi0 := Lib.hid hi0
      clear hb1 hat hbx hb0 hs1 hrd
      go_wp2_with fail
      with_reducible refine hNu.mono ?_
      clear hNu
      rintro e w2 ⟨rfl, hrd2, hon⟩
      have hbx2 := hbx1.out.only hon (Ne.symm hpB)
      have hlow2 := only_old hlow.out hon (by rintro i rfl; exact hpw) hlow.out.size
      have hz2 := hon.size
      have hNu2 := fun W h => onum_any p q s1 W h hpq
      obtain ⟨dl, s2, hR2⟩ : ∃ dl s2, Oct.num s1 = (dl, s2) := ⟨_, _, rfl⟩
      simp only [hR2] at hNu2
      have hBl := hbx2.lt
      replace hbx2 := Lib.hid hbx2
      replace hlow2 := Lib.hid hlow2
      replace hrd2 := Lib.hid hrd2
      replace hNu2 := Lib.hid hNu2
      replace hz2 := Lib.hid hz2
      clear hbx1 hlow hon
      have t2 := (hlow2.out.cell (p := ⟨q0, off, none⟩) hq0).trans ht0
      have hrd2d := Lib.hid (show Rdr w2.drew p q s1 from hrd2.out)
      have hbx2d := Lib.hid (Blk.drew hbx2.out)
      have hz2d := Lib.hid (show w1.heap.size ≤ w2.drew.heap.size from hz2.out)
      go_wp2_with fail
      have hqB0 : q0 ≠ w.heap.size := by omega
      have hposn : 0 < n := by omega
      go_region_held3 (fun w' => w'.cell? ⟨q0, off, none⟩ = some (.int .u8 3)) (first | exact t2 | exact t3 | (rw [cell_ne _ _ _ hqB0]; exact t3) | (rw [cell_ne _ _ _ hqB0, cell_ne _ _ _ hqB0]; exact t3)) (first | (go_at_call 47; (with_reducible refine (hNu2.out _ hrd2d.out).mono ?_); rintro e w3 ⟨rfl, hrd3, hon3⟩; have hbx3 := hbx2d.out.only hon3 (Ne.symm hpB); have b30 := hbx3.cell 0; have b32 := hbx3.cell 2; have f30 := hbx3.frozen 0; have f32 := hbx3.frozen 2; simp at b30 b32; have hlow3 := only_old (laterD_ hlow2.out) hon3 (by rintro i rfl; exact hpw) hlow2.out.size; have t3 := (hlow3.cell (p := ⟨q0, off, none⟩) hq0).trans ht0; have hz3 := Lib.hid (Nat.le_trans hz2d.out hon3.size); replace hrd3 := Lib.hid hrd3; replace hbx3 := Lib.hid hbx3; replace hlow3 := Lib.hid hlow3; clear hon3))
      have hrdS := (hrd3.out.wr hpB hqB 0 (.int .i64 dl)).wr hpB hqB 2 (.bool true)
      have hbxS := (hbx3.out.set_ 0 (.int .i64 dl)).set_ 2 (.bool true)
      have hlowS := below_wr (below_wr hlow3.out (Nat.le_refl _) 0 (.int .i64 dl)) (Nat.le_refl _) 2 (.bool true)
      have hNu3 := onum_any p q s2 _ hrdS hpq
      have hi3 := numN hrdS.bys
      obtain ⟨mr, s3, hR3⟩ : ∃ mr s3, Oct.num s2 = (mr, s3) := ⟨_, _, rfl⟩
      rw [hR3] at hNu3 hi3
      have hzS := Nat.le_trans hz3.out (show w3.heap.size ≤ ((w3.setCell ⟨w.heap.size, 0, none⟩ (.int .i64 dl)).setCell ⟨w.heap.size, 2, none⟩ (.bool true)).heap.size by simp [World.setCell])
      replace hbxS := Lib.hid hbxS
      replace hlowS := Lib.hid hlowS
      replace hi3 := Lib.hid hi3
      replace hzS := Lib.hid hzS
      clear hrdS hrd3 hbx3 hlow3 b30 b32 f30 f32 t3 hz3 hbx2d hrd2d hz2d t2 hNu2 hrd2 hbx2 hlow2
      go_wp2_with fail
      with_reducible refine hNu3.mono ?_
      clear hNu3
      rintro e w4 ⟨rfl, hrd4, hon4⟩
      have hbx4 := hbxS.out.only hon4 (Ne.symm hpB)
      have hlow4 := only_old hlowS.out hon4 (by rintro i rfl; exact hpw) hlowS.out.size
      have hz4 := Nat.le_trans hzS.out hon4.size
      have hE := err_any p q s3 w4 hrd4
      have hbd := Frm.body_cont true l
      rw [hX.out] at hbd
      simp only [hR1, hR2, hR3] at hbd
      have c1 := hbx4.cell 0
      have c2 := hbx4.cell 1
      have c3 := hbx4.cell 2
      have c4 := hbx4.cell 3
      have c5 := hbx4.cell 4
      have c6 := hbx4.cell 5
      have e1 := hbx4.frozen 0
      have e2 := hbx4.frozen 1
      have e3 := hbx4.frozen 2
      have e4 := hbx4.frozen 3
      have e5 := hbx4.frozen 4
      have e6 := hbx4.frozen 5
      simp at c1 c2 c3 c4 c5 c6
      replace hbx4 := Lib.hid hbx4
      replace hlow4 := Lib.hid hlow4
      replace hrd4 := Lib.hid hrd4
      replace hz4 := Lib.hid hz4
      replace hbd := Lib.hid hbd
      clear hon4 hbxS hlowS hzS
      go_wp2_with fail
      with_reducible refine hE.mono ?_
      rintro e w5 ⟨rfl, rfl⟩
      clear hE
      by_cases he : s3.e = 0
      · by_cases hm : 256 ≤ mr
        · obtain ⟨l3, e3'⟩ := s3
          simp only at he
          subst he
          go_wp2_with fail
          rw [jumpN_ret]
          refine bodyPost_ret (results_c3 rfl _ _ rfl (zero_blk hbx4.out) rfl) rfl ?_
          replace hbd := hbd.out
          rw [if_pos ⟨trivial, hm⟩] at hbd
          exact next_bad hbd (zero_low hlow4.out)
        · have hm' : ¬ mr ≥ 256 := hm
          replace hbd := hbd.out
          rw [if_neg (fun h => hm h.2)] at hbd
          obtain ⟨m, rfl⟩ : ∃ m : Nat, mr = m := ⟨mr.toNat, by have := hi3.out.1; omega⟩
          rw [Int.toNat_natCast] at hbd
          obtain ⟨l3, e3'⟩ := s3
          simp only at he
          subst he
          go_wp2_with fail
          go_step3
          go_step
          go_step
          refine hpass _ _ ?_
          exact ⟨p, q, w1.heap.size, dl, [], _, hi, m, atN_mk rfl, hap.out, ⟨hrd4.out, ⟨_, hbx4.out, OwnS.nil _⟩, hlow4.out, hz4.out⟩, hi0.out.1, hi0.out.2, by omega, by simp; omega, hbd.symm⟩
      · have hbd2 := hbd.out
        rw [if_neg (fun h => he h.1)] at hbd2
        have hmr : mr = 0 := by
          have h1 := num_zero (s := s2) (by rw [hR3]; exact he)
          rw [hR3] at h1
          exact h1
        subst hmr
        go_wp2_with fail
        go_step3
        go_step
        go_step
        refine hpass _ _ ?_
        exact ⟨p, q, w1.heap.size, dl, [], _, hi, 0, atN_mk rfl, hap.out, ⟨hrd4.out, ⟨_, hbx4.out, OwnS.nil _⟩, hlow4.out, hz4.out⟩, hi0.out.1, hi0.out.2, by omega, by simp, hbd2.symm⟩
end Go.Proofs.YtpagdcobhbkabaaDoor
