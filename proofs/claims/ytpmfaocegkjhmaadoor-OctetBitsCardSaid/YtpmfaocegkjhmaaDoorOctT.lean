/-
  Layer 2: OctetBits.
-/
import Derived.Test.YtpmfaocegkjhmaaDoorOctQ
import Derived.Test.YtpmfaocegkjhmaaDoorOctN
namespace Go.Proofs.YtpmfaocegkjhmaaDoor
open Go.RowKit Go.Sort Go.Shelf Go.Deep Go.WideShapes

namespace Oct
theorem idx_pw {x : Int} (h0 : 0 ≤ x) (h1 : x < 256) : idx (pw x : Int) = x / 64 := by
  unfold pw
  by_cases a : x < 64
  · rw [if_pos a]; show (0 : Int) = _; omega
  rw [if_neg a]
  by_cases a : x < 128
  · rw [if_pos a]; show (1 : Int) = _; omega
  rw [if_neg a]
  by_cases a : x < 192
  · rw [if_pos a]; show (2 : Int) = _; omega
  rw [if_neg a]
  show (3 : Int) = _
  omega
theorem enc_val {x : Int} {t : List Int} (h : Bys (x :: t)) (hl : t.length + 1 = pw x) : enc (val (x % 64) t) (pw x) = x :: t := by
  have hx := h.head
  have hv := val_lt h.tail
  have hp := pow_pos t.length
  rw [← hl]
  show (_ / 256 ^ t.length % 256 + 64 * idx ((t.length + 1 : Nat) : Int)) :: low _ t.length = _
  rw [hl, idx_pw hx.1 hx.2, val_split, low_val _ _ h.tail]
  congr 1
  have e : (x % 64 * 256 ^ t.length + val 0 t) / 256 ^ t.length = x % 64 := by
    rw [Int.add_comm, Int.add_mul_ediv_right _ _ (by omega), Int.ediv_eq_zero_of_lt hv.1 hv.2]
    omega
  rw [e]
  omega
theorem fits_val {x : Int} {t : List Int} (h : Bys (x :: t)) (hl : t.length + 1 = pw x) (hm : val (x % 64) t ≤ 9007199254740991) : Fits (val (x % 64) t) (pw x) := by
  have hx := h.head
  have hv := val_lt_pow (a := x % 64) (by omega) (by omega) h.tail
  refine ⟨hv.1, ?_⟩
  have hpw : pw x = 1 ∨ pw x = 2 ∨ pw x = 4 ∨ pw x = 8 := by unfold pw; (repeat' split) <;> omega
  rcases hpw with e | e | e | e <;> rw [e] at hl ⊢
  · have e2 : t.length = 0 := by omega
    rw [e2] at hv
    simp at hv
    omega
  · have e2 : t.length = 1 := by omega
    rw [e2] at hv
    simp at hv
    omega
  · have e2 : t.length = 3 := by omega
    rw [e2] at hv
    simp at hv
    omega
  · omega
end Oct

/-- The eight bytes of an array. -/
def bytes8 (x0 x1 x2 x3 x4 x5 x6 x7 : Int) : List Int := [x0, x1, x2, x3, x4, x5, x6, x7]
theorem cells8 {w : World} {g : Nat} {t : TypeId} {x0 x1 x2 x3 x4 x5 x6 x7 : Int} (h : Blk w g t #[.int .u8 x0, .int .u8 x1, .int .u8 x2, .int .u8 x3, .int .u8 x4, .int .u8 x5, .int .u8 x6, .int .u8 x7]) {k : Nat} {x : Int} (hx : (bytes8 x0 x1 x2 x3 x4 x5 x6 x7)[k]? = some x) :
    w.cell? ⟨g, k, none⟩ = some (.int .u8 x) := by
  rw [h.cell]
  have : (#[.int .u8 x0, .int .u8 x1, .int .u8 x2, .int .u8 x3, .int .u8 x4, .int .u8 x5, .int .u8 x6, .int .u8 x7] : Array Value) = (u8 (bytes8 x0 x1 x2 x3 x4 x5 x6 x7)).toArray := rfl
  rw [this]
  simp [u8, hx]
theorem sl8 {w : World} {g : Nat} {t : TypeId} {x0 x1 x2 x3 x4 x5 x6 x7 : Int} (h : Blk w g t #[.int .u8 x0, .int .u8 x1, .int .u8 x2, .int .u8 x3, .int .u8 x4, .int .u8 x5, .int .u8 x6, .int .u8 x7]) :
    Sl w g (some ⟨g, 0, none⟩) 8 8 (bytes8 x0 x1 x2 x3 x4 x5 x6 x7) := ⟨rfl, by omega, by unfold maxLen; omega, .inr ⟨0, rfl, h.lt, fun k hk => by
    rw [Nat.zero_add]
    exact cells8 h (by rw [List.getElem?_eq_getElem hk])⟩⟩
theorem rb8 {w : World} {g : Nat} {t : TypeId} {x0 x1 x2 x3 x4 x5 x6 x7 : Int} (h : Blk w g t #[.int .u8 x0, .int .u8 x1, .int .u8 x2, .int .u8 x3, .int .u8 x4, .int .u8 x5, .int .u8 x6, .int .u8 x7]) {S : Nat} (hS : S ≤ 8) :
    Rb w (some ⟨g, 0, none⟩) S 8 ((bytes8 x0 x1 x2 x3 x4 x5 x6 x7).take S) := ⟨by simp [bytes8]; omega, hS, by unfold maxLen; omega, .inr ⟨_, rfl, fun k hk => by
    rw [add_lit0, Nat.zero_add]
    refine cells8 h ?_
    rw [List.getElem_take, List.getElem?_eq_getElem]⟩⟩

theorem slice_arr (G S : Nat) (hS : S ≤ 8) (W : World) : (Instr.sliceAt 46 (.pointer (some ⟨G, 0, none⟩)) none (some (.int .i64 (S : Int))) none).run Tryd.prog W = .ok (.slice (some ⟨G, 0, none⟩) S 8) W := by
  have hl : Tryd.prog.arrayLen 46 = 8 := by simp [Program.arrayLen, Tryd.underlying46]
  have he : Tryd.prog.elem 46 = 5 := by simp [Program.elem, Tryd.underlying46]
  have ht : Tryd.prog.underlying 46 = some (.array (Tryd.prog.arrayLen 46) (Tryd.prog.elem 46)) := by rw [hl, he]; exact Tryd.underlying46
  rw [run_sliceAt_array_h W _ _ ht .i64 _ (by omega) (by rw [hl]; omega), he, Tryd.sizeOf5 W, hl]
  simp [slicedAt, add_lit0]

set_option maxHeartbeats 4000000 in
set_option maxRecDepth 100000 in
theorem bits_any (x0 x1 x2 x3 x4 x5 x6 x7 : Int) (w : World) (hL : Lim w) (hb : Oct.Bys (bytes8 x0 x1 x2 x3 x4 x5 x6 x7)) :
    Calls Tryd.prog 6 #[.agg #[.int .u8 x0, .int .u8 x1, .int .u8 x2, .int .u8 x3, .int .u8 x4, .int .u8 x5, .int .u8 x6, .int .u8 x7]] w fun e w' => e = .returned (.bool true) ∧ Below w.heap.size w w' := by
  have hx0 : 0 ≤ x0 ∧ x0 < 256 := hb x0 (by simp [bytes8])
  obtain ⟨q0, q1⟩ := hx0
  have hx := Blk.new w 46 #[.int .u8 x0, .int .u8 x1, .int .u8 x2, .int .u8 x3, .int .u8 x4, .int .u8 x5, .int .u8 x6, .int .u8 x7]
  have hbx := laterA (Below.refl w.heap.size w) (.cells #[.int .u8 x0, .int .u8 x1, .int .u8 x2, .int .u8 x3, .int .u8 x4, .int .u8 x5, .int .u8 x6, .int .u8 x7] 46)
  obtain ⟨K, hK⟩ : ∃ K : Nat, x0 / 64 = (K : Int) := ⟨(x0 / 64).toNat, by omega⟩
  have hK4 : (K : Int) < 4 := by omega
  have hS8 := pw_bounds x0
  have hy := (Blk.new2 w (.cells #[.int .u8 x0, .int .u8 x1, .int .u8 x2, .int .u8 x3, .int .u8 x4, .int .u8 x5, .int .u8 x6, .int .u8 x7] 46) 3 #[.int .i64 1, .int .i64 2, .int .i64 4, .int .i64 8]).cell K
  have hyS : (#[.int .i64 1, .int .i64 2, .int .i64 4, .int .i64 8] : Array Value)[K]? = some (.int .i64 (Oct.pw x0 : Int)) := by
    unfold Oct.pw
    rcases (by omega : K = 0 ∨ K = 1 ∨ K = 2 ∨ K = 3) with rfl | rfl | rfl | rfl
    · rw [if_pos (by omega)]; rfl
    · rw [if_neg (by omega), if_pos (by omega)]; rfl
    · rw [if_neg (by omega), if_neg (by omega), if_pos (by omega)]; rfl
    · rw [if_neg (by omega), if_neg (by omega), if_neg (by omega)]; rfl
  rw [hyS] at hy
  clear hyS
  have hlo : (bytes8 x0 x1 x2 x3 x4 x5 x6 x7) = x0 :: [x1, x2, x3, x4, x5, x6, x7] := rfl
  have hnum := Oct.numL_cons x0 [x1, x2, x3, x4, x5, x6, x7]
  have hen := Oct.enc_val (x := x0) (t := [x1, x2, x3, x4, x5, x6, x7].take (Oct.pw x0 - 1)) (fun x h => by
    rcases List.mem_cons.1 h with rfl | h
    · exact ⟨q0, q1⟩
    · exact hb x (by rw [hlo]; exact List.mem_cons_of_mem _ (List.mem_of_mem_take h))) (by rw [List.length_take]; simp; omega)
  have hfi := Oct.fits_val (x := x0) (t := [x1, x2, x3, x4, x5, x6, x7].take (Oct.pw x0 - 1)) (fun x h => by
    rcases List.mem_cons.1 h with rfl | h
    · exact ⟨q0, q1⟩
    · exact hb x (by rw [hlo]; exact List.mem_cons_of_mem _ (List.mem_of_mem_take h))) (by rw [List.length_take]; simp; omega)
  have htl : x0 :: [x1, x2, x3, x4, x5, x6, x7].take (Oct.pw x0 - 1) = (bytes8 x0 x1 x2 x3 x4 x5 x6 x7).take (Oct.pw x0) := by
    rw [hlo]
    conv => rhs; rw [show Oct.pw x0 = (Oct.pw x0 - 1) + 1 by omega, List.take_succ_cons]
  rw [htl] at hen
  generalize Oct.pw x0 = S at *
  rw [if_neg (by simp; omega)] at hnum
  clear htl
  obtain ⟨hS1, hS8⟩ := hS8
  obtain ⟨t, ht⟩ : ∃ t, [x1, x2, x3, x4, x5, x6, x7] = t := ⟨_, rfl⟩
  have htl : t.length = 7 := by rw [← ht]; rfl
  rw [ht] at hnum hen hfi hlo
  replace ht := Lib.hid ht
  have hx2 := hx.alloc (.cells #[.int .i64 1, .int .i64 2, .int .i64 4, .int .i64 8] 3)
  have hb2 := laterA hbx (.cells #[.int .i64 1, .int .i64 2, .int .i64 4, .int .i64 8] 3)
  replace hx := Lib.hid hx
  replace hbx := Lib.hid hbx
  replace hL := Lib.hid hL
  replace hb := Lib.hid hb
  replace hnum := Lib.hid hnum
  replace hen := Lib.hid hen
  replace hfi := Lib.hid hfi
  replace hlo := Lib.hid hlo
  replace hx2 := Lib.hid hx2
  replace hb2 := Lib.hid hb2
  go_enter Tryd.func6, Tryd.ntmps6
  go_wp2_with fail
  obtain ⟨W, hW⟩ : ∃ W, (w.alloc (.cells #[.int .u8 x0, .int .u8 x1, .int .u8 x2, .int .u8 x3, .int .u8 x4, .int .u8 x5, .int .u8 x6, .int .u8 x7] 46)).alloc (.cells #[.int .i64 1, .int .i64 2, .int .i64 4, .int .i64 8] 3) = W := ⟨_, rfl⟩
  rw [hW] at hx2 hb2 ⊢
  clear hx hbx hy hW
  obtain ⟨G, hG⟩ : ∃ G, w.heap.size = G := ⟨_, rfl⟩
  rw [hG] at hx2 ⊢
  replace hG := Lib.hid hG
  have hbt : Oct.Bys (x0 :: t) := by rw [← hlo.out]; exact hb.out
  replace hbt := Lib.hid hbt
  go_loopw [4, 5] (fun v i wr => ∃ j k : Nat, i = .int .i64 (k : Int) ∧ k = j + 1 ∧ k ≤ S ∧ v = .int .i64 (Oct.val (x0 % 64) (t.take j)) ∧ W = wr) (fun _ i _ => 9 - (intOf i).toNat)
  case atStart => exact ⟨0, 1, rfl, rfl, by omega, rfl, rfl⟩
  case round =>
    obtain ⟨j, k, rfl, hjk, hj, rfl, rfl⟩ := hrel
    clear hK hK4
    by_cases hjS : k < S
    · have hjS' : (k : Int) < (S : Int) := by omega
      have hvb := val_small (a := x0 % 64) (t := t) (by omega) (by omega) hbt.out.tail (i := j) (by omega)
      obtain ⟨x, hx1, e1, y0, y1⟩ := next_byte (x0 % 64) hbt.out (i := j) (by omega) hvb.1 hvb.2
      rw [← hjk] at hx1 e1
      rw [← hlo.out] at hx1
      have b1 := cells8 hx2.out hx1
      have hk8 : (k : Int) < 8 := by omega
      obtain ⟨V, hV⟩ : ∃ V, Oct.val (x0 % 64) (t.take j) = V := ⟨_, rfl⟩
      rw [hV] at e1 hvb ⊢
      obtain ⟨hv0, hv1⟩ := hvb
      have hwx : IntKind.i64.wrap x = x := IntWalk.i64_in _ (by omega)
      have hwv : IntKind.i64.wrap (V * 256) = V * 256 := IntWalk.i64_in _ (by omega)
      have hwi : IntKind.i64.wrap ((k : Int) + 1) = (k : Int) + 1 := IntWalk.i64_in _ (by omega)
      clear hv0 hv1 hx1 y0 y1
      replace hV := Lib.hid hV
      replace hjk := Lib.hid hjk
      go_wp2_with fail
      refine ⟨⟨k, k + 1, by simp, rfl, by omega, by rw [← e1], trivial⟩, ?_⟩
      simp only [intOf]
      omega
    · have hjS' : ¬ (k : Int) < (S : Int) := by omega
      have hSj : S - 1 = j := by omega
      rw [hSj] at hnum hen hfi
      clear hjS hjk hj
      obtain ⟨V, hV⟩ : ∃ V, Oct.val (x0 % 64) (t.take j) = V := ⟨_, rfl⟩
      rw [hV] at hnum hen hfi ⊢
      replace hV := Lib.hid hV
      replace hSj := Lib.hid hSj
      have hWs := hb2.out.size
      have h0 := hL.out.lt
      have hN := newr2_any _ 8 8 G _ W (by omega) (sl8 hx2.out) (by omega) hb.out
      go_wp2_with fail
      with_reducible refine hN.mono ?_
      clear hN
      rintro e w1 ⟨p, q, rfl, hrd, hat, hb1⟩
      have hpw : w.heap.size ≤ p := Nat.le_trans hWs hat.p0
      have hpG : G ≠ p := by have := hx2.out.lt; have := hat.p0; omega
      have hpq := hat.ne
      have hbw := Lib.hid (old_later2 hb2.out hb1 hWs)
      have hx3 := Lib.hid (hx2.out.later hb1)
      clear hb1 hat hb2 hx2
      have hNu := num_any p q _ w1 hrd hpq
      rw [show Oct.num ⟨bytes8 x0 x1 x2 x3 x4 x5 x6 x7, 0⟩ = Oct.numL (bytes8 x0 x1 x2 x3 x4 x5 x6 x7) from rfl, hlo.out, hnum.out] at hNu
      replace hrd := Lib.hid hrd
      by_cases hm : 9007199254740991 < V
      · rw [if_pos hm] at hNu
        go_wp2_with fail
        with_reducible refine hNu.mono ?_
        clear hNu
        rintro e w2 ⟨rfl, hrd2, hon⟩
        have hbw2 := Lib.hid (only_old hbw.out hon (by rintro i rfl; exact hpw) hbw.out.size)
        have hE := err_any p q _ w2 hrd2
        have hLe := left_any p q _ w2 hrd2
        rw [show (({ l := x0 :: t, e := 9 } : Oct.St).l.length : Int) = 8 by simp [htl]] at hLe
        have hWk := works_any w2 (hL.out.later hbw2.out)
        replace hrd2 := Lib.hid hrd2
        clear hon
        go_wp2_with fail
        with_reducible refine hE.mono ?_
        rintro e w3 ⟨rfl, rfl⟩
        go_wp2_with fail
        with_reducible refine hLe.mono ?_
        rintro e w3 ⟨rfl, rfl⟩
        go_wp2_with fail
        with_reducible refine hWk.mono ?_
        rintro e w3 ⟨rfl, hb⟩
        go_wp2
        go_ret
        exact ⟨rfl, old_later2 hbw2.out hb hbw2.out.size⟩
      · rw [if_neg hm] at hNu
        have hfit := hfi.out (by omega)
        have hput := Oct.putIn_fits [] hfit
        rw [hen.out, List.nil_append] at hput
        go_wp2_with fail
        with_reducible refine hNu.mono ?_
        clear hNu
        rintro e w2 ⟨rfl, hrd2, hon⟩
        have hbw2 := Lib.hid (only_old hbw.out hon (by rintro i rfl; exact hpw) hbw.out.size)
        replace hx3 := Lib.hid (hx3.out.only hon hpG)
        clear hon
        have hP := putin_any none 0 0 0 [] V S w2 (hL.out.later hbw2.out) (Sl.nil _ 0) (by omega)
        rw [hput] at hP
        replace hrd2 := Lib.hid hrd2
        replace hfit := Lib.hid hfit
        replace hput := Lib.hid hput
        go_wp2_with fail
        with_reducible refine hP.mono ?_
        clear hP
        rintro e w3 ⟨v, rfl, ho, hb3⟩
        obtain ⟨A4, c4, rfl, hr4⟩ := ho.rb
        replace hx3 := Lib.hid (hx3.out.later hb3)
        have hrd3 := hrd2.out.later hb3
        have hbw3 := Lib.hid (old_later2 hbw2.out hb3 hbw2.out.size)
        clear hb3 ho hrd2
        have hLe := left_any p q _ w3 hrd3
        rw [show (({ l := t.drop j, e := 0 } : Oct.St).l.length : Int) = 8 - (S : Int) by have := hSj.out; simp [htl]; omega] at hLe
        have hw8 : IntKind.i64.wrap (8 - (S : Int)) = 8 - (S : Int) := IntWalk.i64_in _ (by omega)
        have hWk := works_any w3 (hL.out.later hbw3.out)
        have hsA := fun W => slice_arr G S hS8 W
        have hEq := eqb_same hr4 (rb8 hx3.out (S := S) hS8) (hb.out.take S)
        have hln : ((bytes8 x0 x1 x2 x3 x4 x5 x6 x7).take S).length = S := by simp [bytes8]; omega
        rw [hln] at hEq ⊢
        replace hrd3 := Lib.hid hrd3
        replace hr4 := Lib.hid hr4
        go_wp2_with fail
        with_reducible refine hLe.mono ?_
        rintro e w4 ⟨rfl, rfl⟩
        go_wp2_with fail
        with_reducible refine hEq.mono ?_
        rintro e w4 ⟨rfl, rfl⟩
        go_wp2_with fail
        with_reducible refine hWk.mono ?_
        rintro e w4 ⟨rfl, hb⟩
        go_wp2
        go_ret
        exact ⟨rfl, old_later2 hbw3.out hb hbw3.out.size⟩
end Go.Proofs.YtpmfaocegkjhmaaDoor
