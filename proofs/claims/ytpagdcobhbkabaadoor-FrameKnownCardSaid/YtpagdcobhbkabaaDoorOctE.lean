/-
  Layer 2: Put; the document's PutIn and Put.
-/
import Derived.Test.YtpagdcobhbkabaaDoorOctD
import Derived.Deep.RegionHeld3
import Derived.Deep.RegionWith
namespace Go.Proofs.YtpagdcobhbkabaaDoor
open Go.RowKit Go.Sort Go.Shelf Go.Deep Go.WideShapes

theorem put_any (A : Option Addr) (m c q : Nat) (l : List Int) (n : Int) (w : World) (hL : Lim w) (h : Sl w q A m c l) (hs : m ≤ 10000) :
    Calls Tryd.prog 36 #[.slice A m c, .int .i64 n] w fun e w' => ∃ v, e = .returned (.tuple #[v, .int .i64 (Oct.put l n).2]) ∧ OB w' w.heap.size v (Oct.put l n).1 ∧ Below w.heap.size w w' := by
  have hsz := size_any n w hL
  have hp := fun w1 (hb : Below w.heap.size w w1) => putin_any A m c q l n (max (Oct.size n) 1) w1 (hL.later hb) (h.later hb) hs
  have hN : ∀ w1, Below w.heap.size w w1 → w.heap.size ≤ w1.heap.size := fun _ hb => hb.size
  unfold Oct.put
  generalize Oct.putIn l n (max (Oct.size n) 1) = r at *
  clear hL h
  generalize Oct.size n = k at *
  obtain ⟨x, hx⟩ : ∃ x, max k 1 = x := ⟨_, rfl⟩
  rw [hx] at hp
  go_enter Tryd.func36, Tryd.ntmps36
  go_wp2_with fail
  refine hsz.mono ?_
  rintro e w1 ⟨rfl, hb⟩
  go_wp2_with fail
  refine (hp w1 hb).mono ?_
  rintro e w2 ⟨v, rfl, ho, hb2⟩
  go_wp2
  go_ret2
  exact ⟨v, rfl, ho.mono (hN _ hb), later hb hb2⟩

theorem mark_any (s : Int) (w : World) : Calls Tryd.prog 69 #[.int .i64 s] w fun e w' => e = .returned (.int .i64 (if s = 1 then 0 else if s = 2 then 64 else if s = 4 then 128 else 192)) ∧ w = w' := by
  go_enter Tryd.func69, Tryd.ntmps69
  go_wp2
  all_goals go_ret
  all_goals refine ⟨?_, rfl⟩
  all_goals congr 2
  all_goals simp_all

set_option maxRecDepth 100000 in
theorem make_bytes (S : Nat) (hS : S ≤ 8) (w : World) : (Instr.makeSlice 27 (.int .i64 (S : Int)) (.int .i64 (S : Int))).run Tryd.prog w = .ok (.slice (some ⟨w.heap.size, 0, none⟩) S S) (w.alloc (.cells (u8 (List.replicate S 0)).toArray 5)) := by
  obtain ⟨i0, hi, hz0, hz1, hz2⟩ := info_parts' byte_info
  have h := run_make (P := Tryd.prog) w 27 5 i0 (.int .u8 0) Tryd.underlying27 hi hz0 .i64 .i64 (S : Int) (S : Int) (by omega) (by omega) (by rw [hz2]; omega) (by omega)
  rw [h, hz1, Int.toNat_natCast, Nat.mul_one]
  congr 3
  apply Array.ext'
  apply List.ext_getElem
  · simp [madeCells, u8]
  · intro i h1 h2
    simp [madeCells, u8, Value.cells, Nat.mod_one]
theorem low_put (n : Int) (S j : Nat) (hj : j < S) : ((u8 (List.replicate (S - j) 0 ++ Oct.low n j)).toArray).setIfInBounds (S - 1 - j) (.int .u8 (n / 256 ^ j % 256)) = (u8 (List.replicate (S - (j + 1)) 0 ++ Oct.low n (j + 1))).toArray := by
  apply Array.ext'
  have hl := Oct.low_length n j
  apply List.ext_getElem
  · simp [u8, Oct.low_length]; omega
  · intro i h1 h2
    have hi : i < S := by simp [u8, Oct.low_length] at h1; omega
    simp only [u8, List.getElem_map, Array.toList_setIfInBounds, List.getElem_set, List.getElem_append, List.length_replicate, List.getElem_replicate]
    by_cases e1 : S - 1 - j = i
    · subst e1
      simp [Oct.low, show ¬ (S - 1 - j < S - (j + 1)) by omega, show S - 1 - j - (S - (j + 1)) = 0 by omega]
    · by_cases e2 : i < S - (j + 1)
      · simp [e1, e2, show i < S - j by omega]
      · have e3 : ¬ i < S - j := by omega
        have e4 : i - (S - (j + 1)) = (i - (S - j)) + 1 := by omega
        simp [e1, e2, e3, e4, Oct.low]

set_option maxHeartbeats 2000000 in
set_option maxRecDepth 100000 in
theorem rputin_ok1 (A : Option Addr) (m c : Nat) (l : List Int) (n : Int) (w : World) (h : Rb w A m c l) (hs : m ≤ 10000) (hf : Oct.Fits n 1) (k : Int) (hk : k ≤ 1) (hk0 : ¬ k = 0) (hr : ∀ w : World, Calls Tryd.prog 59 #[.int .i64 n] w fun e w' => e = .returned (.int .i64 k) ∧ w = w') :
    Calls Tryd.prog 58 #[.slice A m c, .int .i64 n, .int .i64 1] w fun e w' => ∃ v, e = .returned (.tuple #[v, .int .i64 0]) ∧ OB w' w.heap.size v (l ++ Oct.enc n 1) ∧ Below w.heap.size w w' := by
  have hl := h.1
  have H := Lib.hid h
  clear h
  have hmk : ∀ W : World, (Instr.makeSlice 27 (.int .i64 1) (.int .i64 1)).run Tryd.prog W = .ok (.slice (some ⟨W.heap.size, 0, none⟩) 1 1) (W.alloc (.cells (u8 (List.replicate 1 0)).toArray 5)) := fun W => make_bytes 1 (by omega) W
  have hf0 := hf.pos
  have k3 : ¬ (1 : Int) < k := by omega
  obtain ⟨dd, he, hd0, hd1, hd2, hd3, hd4⟩ := Oct.enc_head hf
  replace hf := Lib.hid hf
  replace he := Lib.hid he
  replace hd3 := Lib.hid hd3
  replace hd2 := Lib.hid hd2
  replace hd4 := Lib.hid hd4
  go_enter Tryd.func58, Tryd.ntmps58
  go_wp2_with fail
  refine (hr _).mono ?_
  rintro e w1 ⟨rfl, rfl⟩
  go_wp2_with fail
  refine (hr _).mono ?_
  rintro e w1 ⟨rfl, rfl⟩
  go_wp2_with fail
  go_loopw [9, 10] (fun v i wr => ∃ j : Nat, i = .int .i64 (0 - (j : Int)) ∧ j ≤ 1 ∧ v = .int .i64 (n / 256 ^ j) ∧ Blk wr w.heap.size 5 (u8 (List.replicate (1 - j) 0 ++ Oct.low n j)).toArray ∧ Below w.heap.size w wr) (fun _ i _ => (1 + intOf i).toNat)
  case atStart => exact ⟨0, rfl, by omega, by simp, Blk.new _ _ _, laterA (Below.refl _ _) _⟩
  case round =>
    obtain ⟨j, rfl, hj, rfl, hx, hb⟩ := hrel
    have hL0 : 0 ≤ n / 256 ^ j := Int.ediv_nonneg hf0.2.2.1 (Int.le_of_lt (Oct.pow_pos j))
    have hL1 : n / 256 ^ j ≤ 9007199254740991 := Int.le_trans (Int.ediv_le_self _ hf0.2.2.1) hf0.2.2.2
    have hst := low_put n 1 j
    have hLn : n / 256 ^ (j + 1) = n / 256 ^ j / 256 := by rw [Int.pow_succ, Int.ediv_ediv_of_nonneg (Int.le_of_lt (Oct.pow_pos j))]
    obtain ⟨L, hL⟩ : ∃ L, n / 256 ^ j = L := ⟨_, rfl⟩
    rw [hL] at hst hL0 hL1 hLn ⊢
    have hdv : wrap64 (L.tdiv 256) = L / 256 := by rw [Int.tdiv_eq_ediv_of_nonneg hL0]; unfold wrap64; omega
    replace hx := Lib.hid hx
    replace hb := Lib.hid hb
    replace hL := Lib.hid hL
    replace hst := Lib.hid hst
    replace hLn := Lib.hid hLn
    replace hdv := Lib.hid hdv
    by_cases hlt : j < 1
    · obtain rfl : j = 0 := by omega
      have y0 : wr.cell? ⟨w.heap.size, 0, none⟩ = some (.int .u8 0) := by rw [hx.out.cell]; rfl
      have y1 := hx.out.frozen 0
      go_wp2
      refine ⟨⟨1, rfl, by omega, ?_, ?_, ?_⟩, by simp [intOf]⟩
      · rw [hLn.out]
      · have := hx.out.set_ 0 (.int .u8 (L % 256))
        have h2 := hst.out (by omega)
        rw [show 1 - 1 - 0 = 0 from rfl] at h2
        rw [h2] at this
        exact this
      · exact hb.out.setCell (Nat.le_refl _) _
    · have t1 : ¬ (0 : Int) - j ≥ 0 := by omega
      have hj8 : j = 1 := by omega
      subst hj8
      rw [Nat.sub_self, List.replicate_zero, List.nil_append] at hx
      have hlow : Oct.low n 1 = dd % 64 :: Oct.low n 0 := by
        rw [hd3.out]
        show n / 256 ^ 0 % 256 :: _ = _
        have := hd3.out
        have b : n / 256 ^ 0 % 256 = n / 256 ^ 0 := by
          have : n / 256 ^ (1 - 1) = n / 256 ^ 0 := rfl
          omega
        rw [b]
      rw [hlow] at hx
      obtain ⟨y, hy⟩ : ∃ y, dd % 64 = y := ⟨_, rfl⟩
      rw [hy] at hx
      have y0 := hx.out.cell 0
      have y1 := hx.out.frozen 0
      have hx2 := hx.out.set_ 0 (.int .u8 dd)
      rw [show ((u8 (y :: Oct.low n 0)).toArray.setIfInBounds 0 (.int .u8 dd)) = (u8 (Oct.enc n 1)).toArray by rw [he.out]; simp [u8]] at hx2
      have hb2 := hb.out.setCell (p := ⟨w.heap.size, 0, none⟩) (Nat.le_refl _) (.int .u8 dd)
      simp [u8] at y0
      have e1 : IntKind.u8.wrap (y + IntKind.u8.wrap 0) = dd := by
        have := hd4.out
        have h3 := hd3.out
        have i8 : Oct.idx ((1 : Nat) : Int) = 0 := rfl
        rw [i8] at this
        have h9 : dd = y + 0 := by omega
        have hK : IntKind.u8.wrap 0 = 0 := rfl
        rw [hK, h9, IntKind.wrap_u8]
        omega
      have hrb := rb_blk (Oct.enc n 1) (hx2.drew) (by simp) (by rw [Oct.enc_length]; unfold maxLen; omega)
      rw [Oct.enc_length] at hrb
      replace hb2 := laterD hb2
      replace hx := Lib.hid hx
      replace hx2 := Lib.hid hx2
      replace hrb := Lib.hid hrb
      replace hb2 := Lib.hid hb2
      have hmark : ∀ W : World, Calls Tryd.prog 69 #[.int .i64 1] W fun e w' => e = .returned (.int .i64 0) ∧ W = w' := fun W => mark_any 1 W
      go_wp2_with fail
      go_region_with (go_at_call 69; (with_reducible refine (hmark _).mono ?_); rintro e w1 ⟨rfl, rfl⟩)
      all_goals try rw [e1]
      all_goals generalize (wr.setCell _ _).drew = w5 at *
      all_goals go_wp2_with fail
      all_goals refine (copyb_any A m c l w5 (H.out.later hb2.out) (by omega)).mono ?_
      all_goals rintro e w6 ⟨v', rfl, ho, hb6⟩
      all_goals have hrb6 := hrb.out.later hb6
      all_goals have hlen : l.length + (Oct.enc n 1).length ≤ 100000 := by rw [Oct.enc_length]; omega
      all_goals replace ho := ho.mono hb2.out.size
      all_goals have hb7 := Lib.hid (later hb2.out hb6)
      all_goals go_wp2_with (at_builtin; go_loud (refine wpList_app (B := w.heap.size) (v := v') (l := l) (m := Oct.enc n 1) rfl _ _ rfl rfl rfl ho hrb6 hlen hb7.out.size ?_))
      all_goals intro v2 w7 ho2 hg _
      all_goals have hb8 := hb7.out.grown hg hb7.out.size (fun k hk => (World.ownsRow.lt ho k hk).1)
      all_goals go_wp2
      all_goals go_ret2
      all_goals exact ⟨_, rfl, ho2, hb8⟩

set_option maxHeartbeats 2000000 in
set_option maxRecDepth 100000 in
theorem rputin_ok2 (A : Option Addr) (m c : Nat) (l : List Int) (n : Int) (w : World) (h : Rb w A m c l) (hs : m ≤ 10000) (hf : Oct.Fits n 2) (k : Int) (hk : k ≤ 2) (hk0 : ¬ k = 0) (hr : ∀ w : World, Calls Tryd.prog 59 #[.int .i64 n] w fun e w' => e = .returned (.int .i64 k) ∧ w = w') :
    Calls Tryd.prog 58 #[.slice A m c, .int .i64 n, .int .i64 2] w fun e w' => ∃ v, e = .returned (.tuple #[v, .int .i64 0]) ∧ OB w' w.heap.size v (l ++ Oct.enc n 2) ∧ Below w.heap.size w w' := by
  have hl := h.1
  have H := Lib.hid h
  clear h
  have hmk : ∀ W : World, (Instr.makeSlice 27 (.int .i64 2) (.int .i64 2)).run Tryd.prog W = .ok (.slice (some ⟨W.heap.size, 0, none⟩) 2 2) (W.alloc (.cells (u8 (List.replicate 2 0)).toArray 5)) := fun W => make_bytes 2 (by omega) W
  have hf0 := hf.pos
  have k3 : ¬ (2 : Int) < k := by omega
  obtain ⟨dd, he, hd0, hd1, hd2, hd3, hd4⟩ := Oct.enc_head hf
  replace hf := Lib.hid hf
  replace he := Lib.hid he
  replace hd3 := Lib.hid hd3
  replace hd2 := Lib.hid hd2
  replace hd4 := Lib.hid hd4
  go_enter Tryd.func58, Tryd.ntmps58
  go_wp2_with fail
  refine (hr _).mono ?_
  rintro e w1 ⟨rfl, rfl⟩
  go_wp2_with fail
  refine (hr _).mono ?_
  rintro e w1 ⟨rfl, rfl⟩
  go_wp2_with fail
  go_loopw [9, 10] (fun v i wr => ∃ j : Nat, i = .int .i64 (1 - (j : Int)) ∧ j ≤ 2 ∧ v = .int .i64 (n / 256 ^ j) ∧ Blk wr w.heap.size 5 (u8 (List.replicate (2 - j) 0 ++ Oct.low n j)).toArray ∧ Below w.heap.size w wr) (fun _ i _ => (1 + intOf i).toNat)
  case atStart => exact ⟨0, rfl, by omega, by simp, Blk.new _ _ _, laterA (Below.refl _ _) _⟩
  case round =>
    obtain ⟨j, rfl, hj, rfl, hx, hb⟩ := hrel
    have hL0 : 0 ≤ n / 256 ^ j := Int.ediv_nonneg hf0.2.2.1 (Int.le_of_lt (Oct.pow_pos j))
    have hL1 : n / 256 ^ j ≤ 9007199254740991 := Int.le_trans (Int.ediv_le_self _ hf0.2.2.1) hf0.2.2.2
    have hst := low_put n 2 j
    have hLn : n / 256 ^ (j + 1) = n / 256 ^ j / 256 := by rw [Int.pow_succ, Int.ediv_ediv_of_nonneg (Int.le_of_lt (Oct.pow_pos j))]
    obtain ⟨L, hL⟩ : ∃ L, n / 256 ^ j = L := ⟨_, rfl⟩
    rw [hL] at hst hL0 hL1 hLn ⊢
    have hdv : wrap64 (L.tdiv 256) = L / 256 := by rw [Int.tdiv_eq_ediv_of_nonneg hL0]; unfold wrap64; omega
    replace hx := Lib.hid hx
    replace hb := Lib.hid hb
    replace hL := Lib.hid hL
    replace hst := Lib.hid hst
    replace hLn := Lib.hid hLn
    replace hdv := Lib.hid hdv
    by_cases hlt : j < 2
    · have t1 : (1 : Int) - j ≥ 0 := by omega
      have y0 : wr.cell? ⟨w.heap.size, 1 - j, none⟩ = some (.int .u8 0) := by
        rw [hx.out.cell]
        simp [u8, List.getElem?_append_left, show 1 - j < 2 - j by omega]
      have y1 := hx.out.frozen (1 - j)
      go_wp2
      refine ⟨⟨j + 1, by congr 1; omega, by omega, ?_, ?_, ?_⟩, by simp only [intOf]; omega⟩
      · rw [hLn.out]
      · have := hx.out.set_ (1 - j) (.int .u8 (L % 256))
        rw [hst.out hlt] at this
        exact this
      · exact hb.out.setCell (Nat.le_refl _) _
    · have t1 : ¬ (1 : Int) - j ≥ 0 := by omega
      have hj8 : j = 2 := by omega
      subst hj8
      rw [Nat.sub_self, List.replicate_zero, List.nil_append] at hx
      have hlow : Oct.low n 2 = dd % 64 :: Oct.low n 1 := by
        rw [hd3.out]
        show n / 256 ^ 1 % 256 :: _ = _
        have := hd3.out
        have b : n / 256 ^ 1 % 256 = n / 256 ^ 1 := by
          have : n / 256 ^ (2 - 1) = n / 256 ^ 1 := rfl
          omega
        rw [b]
      rw [hlow] at hx
      obtain ⟨y, hy⟩ : ∃ y, dd % 64 = y := ⟨_, rfl⟩
      rw [hy] at hx
      have y0 := hx.out.cell 0
      have y1 := hx.out.frozen 0
      have hx2 := hx.out.set_ 0 (.int .u8 dd)
      rw [show ((u8 (y :: Oct.low n 1)).toArray.setIfInBounds 0 (.int .u8 dd)) = (u8 (Oct.enc n 2)).toArray by rw [he.out]; simp [u8]] at hx2
      have hb2 := hb.out.setCell (p := ⟨w.heap.size, 0, none⟩) (Nat.le_refl _) (.int .u8 dd)
      simp [u8] at y0
      have e1 : IntKind.u8.wrap (y + IntKind.u8.wrap 64) = dd := by
        have := hd4.out
        have h3 := hd3.out
        have i8 : Oct.idx ((2 : Nat) : Int) = 1 := rfl
        rw [i8] at this
        have h9 : dd = y + 64 := by omega
        have hK : IntKind.u8.wrap 64 = 64 := rfl
        rw [hK, h9, IntKind.wrap_u8]
        omega
      have hrb := rb_blk (Oct.enc n 2) (hx2.drew) (by simp) (by rw [Oct.enc_length]; unfold maxLen; omega)
      rw [Oct.enc_length] at hrb
      replace hb2 := laterD hb2
      replace hx := Lib.hid hx
      replace hx2 := Lib.hid hx2
      replace hrb := Lib.hid hrb
      replace hb2 := Lib.hid hb2
      have hmark : ∀ W : World, Calls Tryd.prog 69 #[.int .i64 2] W fun e w' => e = .returned (.int .i64 64) ∧ W = w' := fun W => mark_any 2 W
      go_wp2_with fail
      go_region_with (go_at_call 69; (with_reducible refine (hmark _).mono ?_); rintro e w1 ⟨rfl, rfl⟩)
      all_goals try rw [e1]
      all_goals generalize (wr.setCell _ _).drew = w5 at *
      all_goals go_wp2_with fail
      all_goals refine (copyb_any A m c l w5 (H.out.later hb2.out) (by omega)).mono ?_
      all_goals rintro e w6 ⟨v', rfl, ho, hb6⟩
      all_goals have hrb6 := hrb.out.later hb6
      all_goals have hlen : l.length + (Oct.enc n 2).length ≤ 100000 := by rw [Oct.enc_length]; omega
      all_goals replace ho := ho.mono hb2.out.size
      all_goals have hb7 := Lib.hid (later hb2.out hb6)
      all_goals go_wp2_with (at_builtin; go_loud (refine wpList_app (B := w.heap.size) (v := v') (l := l) (m := Oct.enc n 2) rfl _ _ rfl rfl rfl ho hrb6 hlen hb7.out.size ?_))
      all_goals intro v2 w7 ho2 hg _
      all_goals have hb8 := hb7.out.grown hg hb7.out.size (fun k hk => (World.ownsRow.lt ho k hk).1)
      all_goals go_wp2
      all_goals go_ret2
      all_goals exact ⟨_, rfl, ho2, hb8⟩

set_option maxHeartbeats 2000000 in
set_option maxRecDepth 100000 in
theorem rputin_ok4 (A : Option Addr) (m c : Nat) (l : List Int) (n : Int) (w : World) (h : Rb w A m c l) (hs : m ≤ 10000) (hf : Oct.Fits n 4) (k : Int) (hk : k ≤ 4) (hk0 : ¬ k = 0) (hr : ∀ w : World, Calls Tryd.prog 59 #[.int .i64 n] w fun e w' => e = .returned (.int .i64 k) ∧ w = w') :
    Calls Tryd.prog 58 #[.slice A m c, .int .i64 n, .int .i64 4] w fun e w' => ∃ v, e = .returned (.tuple #[v, .int .i64 0]) ∧ OB w' w.heap.size v (l ++ Oct.enc n 4) ∧ Below w.heap.size w w' := by
  have hl := h.1
  have H := Lib.hid h
  clear h
  have hmk : ∀ W : World, (Instr.makeSlice 27 (.int .i64 4) (.int .i64 4)).run Tryd.prog W = .ok (.slice (some ⟨W.heap.size, 0, none⟩) 4 4) (W.alloc (.cells (u8 (List.replicate 4 0)).toArray 5)) := fun W => make_bytes 4 (by omega) W
  have hf0 := hf.pos
  have k3 : ¬ (4 : Int) < k := by omega
  obtain ⟨dd, he, hd0, hd1, hd2, hd3, hd4⟩ := Oct.enc_head hf
  replace hf := Lib.hid hf
  replace he := Lib.hid he
  replace hd3 := Lib.hid hd3
  replace hd2 := Lib.hid hd2
  replace hd4 := Lib.hid hd4
  go_enter Tryd.func58, Tryd.ntmps58
  go_wp2_with fail
  refine (hr _).mono ?_
  rintro e w1 ⟨rfl, rfl⟩
  go_wp2_with fail
  refine (hr _).mono ?_
  rintro e w1 ⟨rfl, rfl⟩
  go_wp2_with fail
  go_loopw [9, 10] (fun v i wr => ∃ j : Nat, i = .int .i64 (3 - (j : Int)) ∧ j ≤ 4 ∧ v = .int .i64 (n / 256 ^ j) ∧ Blk wr w.heap.size 5 (u8 (List.replicate (4 - j) 0 ++ Oct.low n j)).toArray ∧ Below w.heap.size w wr) (fun _ i _ => (1 + intOf i).toNat)
  case atStart => exact ⟨0, rfl, by omega, by simp, Blk.new _ _ _, laterA (Below.refl _ _) _⟩
  case round =>
    obtain ⟨j, rfl, hj, rfl, hx, hb⟩ := hrel
    have hL0 : 0 ≤ n / 256 ^ j := Int.ediv_nonneg hf0.2.2.1 (Int.le_of_lt (Oct.pow_pos j))
    have hL1 : n / 256 ^ j ≤ 9007199254740991 := Int.le_trans (Int.ediv_le_self _ hf0.2.2.1) hf0.2.2.2
    have hst := low_put n 4 j
    have hLn : n / 256 ^ (j + 1) = n / 256 ^ j / 256 := by rw [Int.pow_succ, Int.ediv_ediv_of_nonneg (Int.le_of_lt (Oct.pow_pos j))]
    obtain ⟨L, hL⟩ : ∃ L, n / 256 ^ j = L := ⟨_, rfl⟩
    rw [hL] at hst hL0 hL1 hLn ⊢
    have hdv : wrap64 (L.tdiv 256) = L / 256 := by rw [Int.tdiv_eq_ediv_of_nonneg hL0]; unfold wrap64; omega
    replace hx := Lib.hid hx
    replace hb := Lib.hid hb
    replace hL := Lib.hid hL
    replace hst := Lib.hid hst
    replace hLn := Lib.hid hLn
    replace hdv := Lib.hid hdv
    by_cases hlt : j < 4
    · have t1 : (3 : Int) - j ≥ 0 := by omega
      have y0 : wr.cell? ⟨w.heap.size, 3 - j, none⟩ = some (.int .u8 0) := by
        rw [hx.out.cell]
        simp [u8, List.getElem?_append_left, show 3 - j < 4 - j by omega]
      have y1 := hx.out.frozen (3 - j)
      go_wp2
      refine ⟨⟨j + 1, by congr 1; omega, by omega, ?_, ?_, ?_⟩, by simp only [intOf]; omega⟩
      · rw [hLn.out]
      · have := hx.out.set_ (3 - j) (.int .u8 (L % 256))
        rw [hst.out hlt] at this
        exact this
      · exact hb.out.setCell (Nat.le_refl _) _
    · have t1 : ¬ (3 : Int) - j ≥ 0 := by omega
      have hj8 : j = 4 := by omega
      subst hj8
      rw [Nat.sub_self, List.replicate_zero, List.nil_append] at hx
      have hlow : Oct.low n 4 = dd % 64 :: Oct.low n 3 := by
        rw [hd3.out]
        show n / 256 ^ 3 % 256 :: _ = _
        have := hd3.out
        have b : n / 256 ^ 3 % 256 = n / 256 ^ 3 := by
          have : n / 256 ^ (4 - 1) = n / 256 ^ 3 := rfl
          omega
        rw [b]
      rw [hlow] at hx
      obtain ⟨y, hy⟩ : ∃ y, dd % 64 = y := ⟨_, rfl⟩
      rw [hy] at hx
      have y0 := hx.out.cell 0
      have y1 := hx.out.frozen 0
      have hx2 := hx.out.set_ 0 (.int .u8 dd)
      rw [show ((u8 (y :: Oct.low n 3)).toArray.setIfInBounds 0 (.int .u8 dd)) = (u8 (Oct.enc n 4)).toArray by rw [he.out]; simp [u8]] at hx2
      have hb2 := hb.out.setCell (p := ⟨w.heap.size, 0, none⟩) (Nat.le_refl _) (.int .u8 dd)
      simp [u8] at y0
      have e1 : IntKind.u8.wrap (y + IntKind.u8.wrap 128) = dd := by
        have := hd4.out
        have h3 := hd3.out
        have i8 : Oct.idx ((4 : Nat) : Int) = 2 := rfl
        rw [i8] at this
        have h9 : dd = y + 128 := by omega
        have hK : IntKind.u8.wrap 128 = 128 := rfl
        rw [hK, h9, IntKind.wrap_u8]
        omega
      have hrb := rb_blk (Oct.enc n 4) (hx2.drew) (by simp) (by rw [Oct.enc_length]; unfold maxLen; omega)
      rw [Oct.enc_length] at hrb
      replace hb2 := laterD hb2
      replace hx := Lib.hid hx
      replace hx2 := Lib.hid hx2
      replace hrb := Lib.hid hrb
      replace hb2 := Lib.hid hb2
      have hmark : ∀ W : World, Calls Tryd.prog 69 #[.int .i64 4] W fun e w' => e = .returned (.int .i64 128) ∧ W = w' := fun W => mark_any 4 W
      go_wp2_with fail
      go_region_with (go_at_call 69; (with_reducible refine (hmark _).mono ?_); rintro e w1 ⟨rfl, rfl⟩)
      all_goals try rw [e1]
      all_goals generalize (wr.setCell _ _).drew = w5 at *
      all_goals go_wp2_with fail
      all_goals refine (copyb_any A m c l w5 (H.out.later hb2.out) (by omega)).mono ?_
      all_goals rintro e w6 ⟨v', rfl, ho, hb6⟩
      all_goals have hrb6 := hrb.out.later hb6
      all_goals have hlen : l.length + (Oct.enc n 4).length ≤ 100000 := by rw [Oct.enc_length]; omega
      all_goals replace ho := ho.mono hb2.out.size
      all_goals have hb7 := Lib.hid (later hb2.out hb6)
      all_goals go_wp2_with (at_builtin; go_loud (refine wpList_app (B := w.heap.size) (v := v') (l := l) (m := Oct.enc n 4) rfl _ _ rfl rfl rfl ho hrb6 hlen hb7.out.size ?_))
      all_goals intro v2 w7 ho2 hg _
      all_goals have hb8 := hb7.out.grown hg hb7.out.size (fun k hk => (World.ownsRow.lt ho k hk).1)
      all_goals go_wp2
      all_goals go_ret2
      all_goals exact ⟨_, rfl, ho2, hb8⟩

set_option maxHeartbeats 2000000 in
set_option maxRecDepth 100000 in
theorem rputin_ok8 (A : Option Addr) (m c : Nat) (l : List Int) (n : Int) (w : World) (h : Rb w A m c l) (hs : m ≤ 10000) (hf : Oct.Fits n 8) (k : Int) (hk : k ≤ 8) (hk0 : ¬ k = 0) (hr : ∀ w : World, Calls Tryd.prog 59 #[.int .i64 n] w fun e w' => e = .returned (.int .i64 k) ∧ w = w') :
    Calls Tryd.prog 58 #[.slice A m c, .int .i64 n, .int .i64 8] w fun e w' => ∃ v, e = .returned (.tuple #[v, .int .i64 0]) ∧ OB w' w.heap.size v (l ++ Oct.enc n 8) ∧ Below w.heap.size w w' := by
  have hl := h.1
  have H := Lib.hid h
  clear h
  have hmk : ∀ W : World, (Instr.makeSlice 27 (.int .i64 8) (.int .i64 8)).run Tryd.prog W = .ok (.slice (some ⟨W.heap.size, 0, none⟩) 8 8) (W.alloc (.cells (u8 (List.replicate 8 0)).toArray 5)) := fun W => make_bytes 8 (by omega) W
  have hf0 := hf.pos
  have k3 : ¬ (8 : Int) < k := by omega
  obtain ⟨dd, he, hd0, hd1, hd2, hd3, hd4⟩ := Oct.enc_head hf
  replace hf := Lib.hid hf
  replace he := Lib.hid he
  replace hd3 := Lib.hid hd3
  replace hd2 := Lib.hid hd2
  replace hd4 := Lib.hid hd4
  go_enter Tryd.func58, Tryd.ntmps58
  go_wp2_with fail
  refine (hr _).mono ?_
  rintro e w1 ⟨rfl, rfl⟩
  go_wp2_with fail
  refine (hr _).mono ?_
  rintro e w1 ⟨rfl, rfl⟩
  go_wp2_with fail
  go_loopw [9, 10] (fun v i wr => ∃ j : Nat, i = .int .i64 (7 - (j : Int)) ∧ j ≤ 8 ∧ v = .int .i64 (n / 256 ^ j) ∧ Blk wr w.heap.size 5 (u8 (List.replicate (8 - j) 0 ++ Oct.low n j)).toArray ∧ Below w.heap.size w wr) (fun _ i _ => (1 + intOf i).toNat)
  case atStart => exact ⟨0, rfl, by omega, by simp, Blk.new _ _ _, laterA (Below.refl _ _) _⟩
  case round =>
    obtain ⟨j, rfl, hj, rfl, hx, hb⟩ := hrel
    have hL0 : 0 ≤ n / 256 ^ j := Int.ediv_nonneg hf0.2.2.1 (Int.le_of_lt (Oct.pow_pos j))
    have hL1 : n / 256 ^ j ≤ 9007199254740991 := Int.le_trans (Int.ediv_le_self _ hf0.2.2.1) hf0.2.2.2
    have hst := low_put n 8 j
    have hLn : n / 256 ^ (j + 1) = n / 256 ^ j / 256 := by rw [Int.pow_succ, Int.ediv_ediv_of_nonneg (Int.le_of_lt (Oct.pow_pos j))]
    obtain ⟨L, hL⟩ : ∃ L, n / 256 ^ j = L := ⟨_, rfl⟩
    rw [hL] at hst hL0 hL1 hLn ⊢
    have hdv : wrap64 (L.tdiv 256) = L / 256 := by rw [Int.tdiv_eq_ediv_of_nonneg hL0]; unfold wrap64; omega
    replace hx := Lib.hid hx
    replace hb := Lib.hid hb
    replace hL := Lib.hid hL
    replace hst := Lib.hid hst
    replace hLn := Lib.hid hLn
    replace hdv := Lib.hid hdv
    by_cases hlt : j < 8
    · have t1 : (7 : Int) - j ≥ 0 := by omega
      have y0 : wr.cell? ⟨w.heap.size, 7 - j, none⟩ = some (.int .u8 0) := by
        rw [hx.out.cell]
        simp [u8, List.getElem?_append_left, show 7 - j < 8 - j by omega]
      have y1 := hx.out.frozen (7 - j)
      go_wp2
      refine ⟨⟨j + 1, by congr 1; omega, by omega, ?_, ?_, ?_⟩, by simp only [intOf]; omega⟩
      · rw [hLn.out]
      · have := hx.out.set_ (7 - j) (.int .u8 (L % 256))
        rw [hst.out hlt] at this
        exact this
      · exact hb.out.setCell (Nat.le_refl _) _
    · have t1 : ¬ (7 : Int) - j ≥ 0 := by omega
      have hj8 : j = 8 := by omega
      subst hj8
      rw [Nat.sub_self, List.replicate_zero, List.nil_append] at hx
      have hlow : Oct.low n 8 = dd % 64 :: Oct.low n 7 := by
        rw [hd3.out]
        show n / 256 ^ 7 % 256 :: _ = _
        have := hd3.out
        have b : n / 256 ^ 7 % 256 = n / 256 ^ 7 := by
          have : n / 256 ^ (8 - 1) = n / 256 ^ 7 := rfl
          omega
        rw [b]
      rw [hlow] at hx
      obtain ⟨y, hy⟩ : ∃ y, dd % 64 = y := ⟨_, rfl⟩
      rw [hy] at hx
      have y0 := hx.out.cell 0
      have y1 := hx.out.frozen 0
      have hx2 := hx.out.set_ 0 (.int .u8 dd)
      rw [show ((u8 (y :: Oct.low n 7)).toArray.setIfInBounds 0 (.int .u8 dd)) = (u8 (Oct.enc n 8)).toArray by rw [he.out]; simp [u8]] at hx2
      have hb2 := hb.out.setCell (p := ⟨w.heap.size, 0, none⟩) (Nat.le_refl _) (.int .u8 dd)
      simp [u8] at y0
      have e1 : IntKind.u8.wrap (y + IntKind.u8.wrap 192) = dd := by
        have := hd4.out
        have h3 := hd3.out
        have i8 : Oct.idx ((8 : Nat) : Int) = 3 := rfl
        rw [i8] at this
        have h9 : dd = y + 192 := by omega
        have hK : IntKind.u8.wrap 192 = 192 := rfl
        rw [hK, h9, IntKind.wrap_u8]
        omega
      have hrb := rb_blk (Oct.enc n 8) (hx2.drew) (by simp) (by rw [Oct.enc_length]; unfold maxLen; omega)
      rw [Oct.enc_length] at hrb
      replace hb2 := laterD hb2
      replace hx := Lib.hid hx
      replace hx2 := Lib.hid hx2
      replace hrb := Lib.hid hrb
      replace hb2 := Lib.hid hb2
      have hmark : ∀ W : World, Calls Tryd.prog 69 #[.int .i64 8] W fun e w' => e = .returned (.int .i64 192) ∧ W = w' := fun W => mark_any 8 W
      go_wp2_with fail
      go_region_with (go_at_call 69; (with_reducible refine (hmark _).mono ?_); rintro e w1 ⟨rfl, rfl⟩)
      all_goals try rw [e1]
      all_goals generalize (wr.setCell _ _).drew = w5 at *
      all_goals go_wp2_with fail
      all_goals refine (copyb_any A m c l w5 (H.out.later hb2.out) (by omega)).mono ?_
      all_goals rintro e w6 ⟨v', rfl, ho, hb6⟩
      all_goals have hrb6 := hrb.out.later hb6
      all_goals have hlen : l.length + (Oct.enc n 8).length ≤ 100000 := by rw [Oct.enc_length]; omega
      all_goals replace ho := ho.mono hb2.out.size
      all_goals have hb7 := Lib.hid (later hb2.out hb6)
      all_goals go_wp2_with (at_builtin; go_loud (refine wpList_app (B := w.heap.size) (v := v') (l := l) (m := Oct.enc n 8) rfl _ _ rfl rfl rfl ho hrb6 hlen hb7.out.size ?_))
      all_goals intro v2 w7 ho2 hg _
      all_goals have hb8 := hb7.out.grown hg hb7.out.size (fun k hk => (World.ownsRow.lt ho k hk).1)
      all_goals go_wp2
      all_goals go_ret2
      all_goals exact ⟨_, rfl, ho2, hb8⟩
end Go.Proofs.YtpagdcobhbkabaaDoor
