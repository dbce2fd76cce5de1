/-
  Layer 2: spare, free; PutIn and Put, the program's and the document's.
-/
import Derived.Test.YtpagdcobhbkabaaDoorOctC
namespace Go.Proofs.YtpagdcobhbkabaaDoor
open Go.RowKit Go.Sort Go.Shelf Go.Deep Go.WideShapes

theorem rb_blk {w : World} {g : Nat} {t : TypeId} {cs : Array Value} (l : List Int) (h : Blk w g t cs) (hc : cs.toList = u8 l) (hm : l.length ≤ maxLen) : Rb w (some ⟨g, 0, none⟩) l.length l.length l :=
  ⟨rfl, Nat.le_refl _, hm, .inr ⟨_, rfl, fun k hk => by
    rw [add_lit0, Nat.zero_add, h.cell, ← Array.getElem?_toList, hc]
    simp [u8, hk]⟩⟩

theorem rb_one {w : World} {g : Nat} {t : TypeId} {y : Int} (h : Blk w g t #[.int .u8 y]) : Rb w (some ⟨g, 0, none⟩) 1 1 [y] := rb_blk [y] h rfl (by unfold maxLen; simp)
/-- Bytes with nine sevens behind. -/
def Sp (w : World) (B : Nat) (A : Option Addr) (n c : Nat) (l : List Int) : Prop :=
  ∃ g, A = some ⟨g, 0, none⟩ ∧ B ≤ g ∧ Sl w g A n c l ∧ n + 9 ≤ c ∧ ∀ k, k < 9 → w.cell? ⟨g, n + k, none⟩ = some (.int .u8 7)
theorem Sp.later {w w' : World} {B n c : Nat} {A : Option Addr} {l : List Int} (h : Sp w B A n c l) (hb : Below w.heap.size w w') : Sp w' B A n c l := by
  obtain ⟨g, h1, h2, h3, h4, h5⟩ := h
  refine ⟨g, h1, h2, h3.later hb, h4, fun k hk => ?_⟩
  have := h5 k hk
  exact (hb.cell (p := ⟨g, _, none⟩) (block_lt_of_cell this)).trans this
theorem Sp.rb {w : World} {B n c : Nat} {A : Option Addr} {l : List Int} (h : Sp w B A n c l) : Rb w A n c l := by
  obtain ⟨g, h1, h2, h3, h4, h5⟩ := h
  exact h3.rb

theorem sevens (j : Nat) (hj : j < 9) : ([7, 7, 7, 7, 7, 7, 7, 7, 7] : List Int)[j]? = some 7 := by
  rcases j with _ | _ | _ | _ | _ | _ | _ | _ | _ | j <;> first | rfl | omega
theorem OB.cells {w : World} {B : Nat} {v : Value} {l : List Int} (h : OB w B v l) (h0 : 0 < l.length) : ∃ g c, v = .slice (some ⟨g, 0, none⟩) l.length c ∧ B ≤ g ∧ g < w.heap.size ∧ l.length ≤ c ∧ c ≤ maxLen ∧ ∀ k x, l[k]? = some x → w.cell? ⟨g, k, none⟩ = some (.int .u8 x) := by
  rcases h.2 with ⟨_, h1⟩ | ⟨g, cap, cur, rfl, hb, hh, hn, hm, hs, ht⟩
  · omega
  · refine ⟨g, cap, rfl, hb, (Array.getElem?_eq_some_iff.1 hh).1, hn, hm, fun k x hx => ?_⟩
    have hk : k < l.length := (List.getElem?_eq_some_iff.1 hx).1
    have e1 : (u8 l)[k]? = some (.int .u8 x) := by simp [u8, hx]
    rw [← ht, List.getElem?_take_of_lt (by omega)] at e1
    rw [cell_of_row w g k cur _ _ hh]
    simpa using e1
theorem sp_of {w : World} {B : Nat} {v : Value} {l : List Int} (h : OB w B v (l ++ [7, 7, 7, 7, 7, 7, 7, 7, 7])) : ∃ q c, v = .slice (some ⟨q, 0, none⟩) (l.length + 9) c ∧ l.length + 9 ≤ c ∧ Sp w B (some ⟨q, 0, none⟩) l.length c l := by
  obtain ⟨g, c, h1, h2, h3, h4, h5, h6⟩ := h.cells (by simp)
  simp only [List.length_append, List.length_cons, List.length_nil] at h1 h4
  refine ⟨g, c, h1, h4, g, rfl, h2, ⟨rfl, by omega, h5, .inr ⟨0, rfl, h3, fun k hk => ?_⟩⟩, by omega, fun k hk => ?_⟩
  · rw [Nat.zero_add]
    exact h6 k _ (by rw [List.getElem?_append_left hk, List.getElem?_eq_getElem hk])
  · exact h6 _ _ (by rw [List.getElem?_append_right (by omega), Nat.add_sub_cancel_left]; exact sevens k hk)

theorem seven_lit {w : World} {g n k : Nat} (h : ∀ k, k < 9 → w.cell? ⟨g, n + k, none⟩ = some (.int .u8 7)) (hk : k < 9) : w.cell? ⟨g, n + k, none⟩ = some (.int .u8 7) := h k hk

/-! ### The program's PutIn and Put -/
theorem enc_take_step (n : Int) (s j : Nat) (hj : j < s) : (Oct.enc n s).take (j + 1) = (Oct.enc n s).take j ++ [(Oct.enc n s).getD j 0] := by
  have hl := Oct.enc_length n s
  rw [List.take_add_one, List.getElem?_eq_getElem (by omega), List.getD_eq_getElem?_getD, List.getElem?_eq_getElem (by omega)]
  rfl
theorem low_getD (n : Int) : ∀ (k j : Nat), j < k → (Oct.low n k).getD j 0 = n / 256 ^ (k - 1 - j) % 256 := by
  intro k
  induction k with
  | zero => intro j h; omega
  | succ k ih =>
    intro j h
    cases j with
    | zero => rfl
    | succ j =>
      show (Oct.low n k).getD j 0 = _
      rw [ih j (by omega)]
      congr 3
      omega
theorem enc_getD (n : Int) (s j : Nat) (hj : j < s) (h0 : 0 < j) : (Oct.enc n s).getD j 0 = n / 256 ^ (s - 1 - j) % 256 := by
  cases s with
  | zero => omega
  | succ k =>
    cases j with
    | zero => omega
    | succ j =>
      show (Oct.low n k).getD j 0 = _
      rw [low_getD n k j (by omega)]
      congr 3
      omega
theorem shr_byte (n : Int) (i : Nat) (hi : i ≤ 7) : n / 2 ^ min (8 * (i : Int)).toNat 64 % 256 = n / 256 ^ i % 256 := by
  have e : min (8 * (i : Int)).toNat 64 = 8 * i := by omega
  rw [e, Int.pow_mul]
  rfl

theorem or_byte : ∀ x : Fin 64, ∀ i : Fin 4, bits .or .u8 (x.val : Int) ((i.val : Int) * 64) = (x.val : Int) + 64 * (i.val : Int) := by decide
theorem first_byte {n : Int} {s : Nat} (h : Oct.Fits n s) : (Oct.enc n s).getD 0 0 = bits .or .u8 (n / 2 ^ (8 * (s - 1 - 0)) % 256) (Oct.idx s * 64) := by
  obtain ⟨d, e, h0, h1, h2, h3, h4⟩ := Oct.enc_head h
  obtain ⟨p0, p1, p2, p3⟩ := h.pos
  rw [e, Nat.sub_zero, Int.pow_mul]
  show d = bits .or .u8 (n / 256 ^ (s - 1) % 256) _
  have b1 : 0 ≤ d % 64 := by omega
  have b2 : d % 64 < 64 := by omega
  rw [← h3]
  have b3 : d % 64 % 256 = d % 64 := by omega
  have b4 : 0 ≤ Oct.idx s ∧ Oct.idx s ≤ 3 := by
    constructor
    · exact Int.le_trans (Oct.cls_le_idx_of_fits h).1 (Oct.cls_le_idx_of_fits h).2
    · unfold Oct.idx; repeat' split <;> omega
  rw [b3]
  have := or_byte ⟨(d % 64).toNat, by omega⟩ ⟨(Oct.idx s).toNat, by omega⟩
  simp only [] at this
  rw [Int.toNat_of_nonneg b1, Int.toNat_of_nonneg b4.1] at this
  rw [this, h3, h4]

set_option maxHeartbeats 2000000 in
set_option maxRecDepth 100000 in
theorem putin_any (A : Option Addr) (m c q : Nat) (l : List Int) (n s : Int) (w : World) (hL : Lim w) (h : Sl w q A m c l) (hs : m ≤ 10000) :
    Calls Tryd.prog 55 #[.slice A m c, .int .i64 n, .int .i64 s] w fun e w' => ∃ v, e = .returned (.tuple #[v, .int .i64 (Oct.putIn l n s).2]) ∧ OB w' w.heap.size v (Oct.putIn l n s).1 ∧ Below w.heap.size w w' := by
  have hc := class_any n w hL
  have hl := h.1
  have H := Lib.hid h
  clear hL h
  rcases Oct.putIn_cases l n s with ⟨e, _, h1⟩ | ⟨e, h1, h2, _⟩ | ⟨e, h1, h2, hf, h3, h4⟩
  · rw [e]
    generalize Oct.cls n = k at *
    go_enter Tryd.func55, Tryd.ntmps55
    go_wp2_with fail
    refine hc.mono ?_
    rintro e w1 ⟨rfl, hb⟩
    go_wp2
    go_ret2
    exact ⟨_, rfl, OB.nil _ _, hb⟩
  · rw [e]
    generalize Oct.cls n = k at *
    have hi := index_any s
    generalize Oct.idx s = i at *
    go_enter Tryd.func55, Tryd.ntmps55
    go_wp2_with fail
    refine hc.mono ?_
    rintro e w1 ⟨rfl, hb⟩
    have h1' : ¬ k < 0 := by omega
    go_wp2_with fail
    refine (hi w1.heap.size _ (Blk.new w1 _ _)).mono ?_
    rintro e w2 ⟨rfl, rfl⟩
    go_wp2
    go_ret2
    exact ⟨_, rfl, OB.nil _ _, laterA hb _⟩
  · rw [e]
    obtain ⟨S, rfl⟩ : ∃ S : Nat, s = S := ⟨s.toNat, by omega⟩
    rw [Int.toNat_natCast] at hf ⊢
    have hi := index_any (S : Int)
    have hi3 : Oct.idx (S : Int) ≤ 3 := by unfold Oct.idx; repeat' split <;> omega
    have hel := Oct.enc_length n S
    generalize hk : Oct.cls n = k at *
    generalize hx : Oct.idx (S : Int) = i at *
    replace hx := Lib.hid hx
    replace hk := Lib.hid hk
    replace hf := Lib.hid hf
    replace hel := Lib.hid hel
    clear e
    go_enter Tryd.func55, Tryd.ntmps55
    go_wp2_with fail
    refine hc.mono ?_
    clear hc
    rintro e w1 ⟨rfl, hb⟩
    have h1' : ¬ k < 0 := by omega
    go_wp2_with fail
    refine (hi w1.heap.size _ (Blk.new w1 _ _)).mono ?_
    clear hi
    rintro e w2 ⟨rfl, rfl⟩
    replace hb := Lib.hid (laterA hb (.cells #[.int .i64 1, .int .i64 2, .int .i64 4, .int .i64 8] 3))
    have h2' : ¬ i < k := by omega
    go_wp2_with fail
    refine (clone_any A m c q l _ (H.out.later hb.out) (by omega)).mono ?_
    rintro e w2 ⟨v1, rfl, ho, hb2⟩
    replace ho := OB.mono ho hb.out.size
    replace hb := Lib.hid (later hb.out hb2)
    clear hb2
    go_wp2_with fail
    refine (grow_any v1 w.heap.size S l w2 ho hb.out.size (by omega) (by omega)).mono ?_
    clear ho
    rintro e w3 ⟨v2, rfl, ho, hb2⟩
    replace hb := Lib.hid (later hb.out hb2)
    clear hb2
    have e1 : IntKind.i64.wrap ((S : Int) - 1) = (S : Int) - 1 := IntWalk.i64_in _ (by omega)
    go_wp2_with fail
    go_loopw [10, 11] (fun v i wr => ∃ j : Nat, i = .int .i64 ((S : Int) - 1 - j) ∧ j ≤ S ∧ OB wr w.heap.size v (l ++ (Oct.enc n S).take j) ∧ Below w.heap.size w wr) (fun _ i _ => (1 + intOf i).toNat)
    case atStart => exact ⟨0, by simp, by omega, by simpa using ho, hb.out⟩
    case round =>
      obtain ⟨j, rfl, hj, ho, hb⟩ := hrel
      replace ho := Lib.hid ho
      replace hb := Lib.hid hb
      by_cases hlt : j < S
      · have t1 : (S : Int) - 1 - j ≥ 0 := by omega
        have t2 : IntKind.i64.wrap (8 * ((S : Int) - 1 - j)) = 8 * ((S : Int) - 1 - j) := IntWalk.i64_in _ (by omega)
        have t3 : ¬ 8 * ((S : Int) - 1 - j) < 0 := by omega
        have hlen : (l ++ (Oct.enc n S).take j).length + 1 ≤ 100000 := by simp; omega
        have hsz := hb.out.size
        by_cases hj0 : j = 0
        · have t4 : ((S : Int) - 1 - j == (S : Int) - 1) = true := by simp; omega
          obtain ⟨Y, hY⟩ : ∃ Y, bits .or .u8 (n / 2 ^ (8 * (S - 1)) % 256) (i * 64) = Y := ⟨_, rfl⟩
          have hYe : (Oct.enc n S).getD j 0 = Y := by
            rw [← hY, ← hx.out, hj0]
            exact first_byte hf.out
          have e0 : (Oct.enc n S).take (j + 1) = [Y] := by rw [enc_take_step n S j hlt, hYe, hj0]; rfl
          replace e0 := Lib.hid e0
          have h8 : 8 * (S - 1 - j) = 8 * (S - 1) := by omega
          have h9 : (S : Int) - 1 - j = (S : Int) - 1 := by omega
          go_wp2_with (at_builtin; go_loud (refine wpList_app (B := w.heap.size) (v := u10) (l := l ++ (Oct.enc n S).take j) (m := [Y]) rfl _ _ rfl rfl rfl (ho.out.alloc _) (rb_one (Blk.new wr _ _)) hlen (by simp; omega) ?_))
          intro v' w' ho' hg _
          have hb' : Below w.heap.size w w' := (laterA hb.out _).grown hg (by simp; omega) (fun k hk => (World.ownsRow.lt ho.out k hk).1)
          rw [← e0.out] at ho'
          replace ho' := Lib.hid ho'
          replace hb' := Lib.hid hb'
          go_wp2
          exact ⟨⟨j + 1, by congr 1; omega, by omega, ho'.out, hb'.out⟩, by simp only [intOf]; omega⟩
        · have t4 : ((S : Int) - 1 - j == (S : Int) - 1) = false := by simp; omega
          obtain ⟨Y, hY⟩ : ∃ Y, n / 2 ^ (8 * (S - 1 - j)) % 256 = Y := ⟨_, rfl⟩
          have hYe : (Oct.enc n S).getD j 0 = Y := by
            rw [← hY, enc_getD n S j hlt (by omega), Int.pow_mul]
            rfl
          go_wp2_with (at_builtin; go_loud (refine wpList_app (B := w.heap.size) (v := u10) (l := l ++ (Oct.enc n S).take j) (m := [Y]) rfl _ _ rfl rfl rfl (ho.out.alloc _) (rb_one (Blk.new wr _ _)) hlen (by simp; omega) ?_))
          intro v' w' ho' hg _
          have hb' : Below w.heap.size w w' := (laterA hb.out _).grown hg (by simp; omega) (fun k hk => (World.ownsRow.lt ho.out k hk).1)
          rw [← hYe, ← enc_take_step n S j hlt] at ho'
          replace ho' := Lib.hid ho'
          replace hb' := Lib.hid hb'
          go_wp2
          exact ⟨⟨j + 1, by congr 1; omega, by omega, ho'.out, hb'.out⟩, by simp only [intOf]; omega⟩
      · have t1 : ¬ (S : Int) - 1 - j ≥ 0 := by omega
        have hjS : j = S := by omega
        subst hjS
        go_wp2
        go_ret2
        refine ⟨_, rfl, ?_, hb.out⟩
        have := ho.out
        rwa [List.take_of_length_le (by rw [hel.out]; omega)] at this
end Go.Proofs.YtpagdcobhbkabaaDoor
