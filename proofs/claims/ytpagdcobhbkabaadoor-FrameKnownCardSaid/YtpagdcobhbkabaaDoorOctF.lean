/-
  Layer 2: the document's PutIn and Put, of all numbers and sizes.
-/
import Derived.Test.YtpagdcobhbkabaaDoorOctE
namespace Go.Proofs.YtpagdcobhbkabaaDoor
open Go.RowKit Go.Sort Go.Shelf Go.Deep Go.WideShapes

set_option maxHeartbeats 2000000 in
set_option maxRecDepth 100000 in
theorem rputin_any (A : Option Addr) (m c : Nat) (l : List Int) (n s : Int) (w : World) (h : Rb w A m c l) (hs : m ≤ 10000) :
    Calls Tryd.prog 58 #[.slice A m c, .int .i64 n, .int .i64 s] w fun e w' => ∃ v, e = .returned (.tuple #[v, .int .i64 (Oct.putIn l n s).2]) ∧ OB w' w.heap.size v (Oct.putIn l n s).1 ∧ Below w.heap.size w w' := by
  have hl := h.1
  have H := Lib.hid h
  have hr := rsize_any n
  clear h
  rcases Oct.putIn_cases l n s with ⟨e, h0, h1⟩ | ⟨e, h1, h2, h3⟩ | ⟨e, h1, h2, hf, h3, h4⟩
  · rw [e]
    rw [h0] at hr
    go_enter Tryd.func58, Tryd.ntmps58
    go_wp2_with fail
    refine (hr _).mono ?_
    rintro e w1 ⟨rfl, rfl⟩
    go_wp2
    go_ret2
    exact ⟨_, rfl, OB.nil _ _, Below.refl _ _⟩
  · rw [e]
    have hk : Oct.size n ≤ s → (s = 1 ∨ s = 2 ∨ s = 4 ∨ s = 8) → False := by
      intro a b
      rcases size_cls n with ⟨c1, c2⟩ | ⟨c1, c2⟩ | ⟨c1, c2⟩ | ⟨c1, c2⟩ | ⟨c1, c2⟩ <;> rw [c1] at h2 <;> rw [c2] at a <;> rcases b with rfl | rfl | rfl | rfl <;> revert h2 a <;> decide
    generalize Oct.size n = k at *
    have h0 : ¬ k = 0 := by omega
    replace hk := Lib.hid hk
    clear h1 h2
    have hd : (s = 1 ∨ s = 2 ∨ s = 4 ∨ s = 8) ∨ (¬ s = 1 ∧ ¬ s = 2 ∧ ¬ s = 4 ∧ ¬ s = 8) := by omega
    rcases hd with hd | ⟨a1, a2, a3, a4⟩
    · have a5 : s < k := Int.not_le.1 fun a => hk.out a hd
      rcases hd with rfl | rfl | rfl | rfl
      all_goals go_enter Tryd.func58, Tryd.ntmps58
      all_goals go_wp2_with fail
      all_goals refine (hr _).mono ?_
      all_goals rintro e w1 ⟨rfl, rfl⟩
      all_goals go_wp2_with fail
      all_goals refine (hr _).mono ?_
      all_goals rintro e w1 ⟨rfl, rfl⟩
      all_goals go_wp2
      all_goals go_ret2
      all_goals exact ⟨_, rfl, OB.nil _ _, Below.refl _ _⟩
    · go_enter Tryd.func58, Tryd.ntmps58
      go_wp2_with fail
      refine (hr _).mono ?_
      rintro e w1 ⟨rfl, rfl⟩
      go_wp2
      go_ret2
      exact ⟨_, rfl, OB.nil _ _, Below.refl _ _⟩
  · rw [e]
    obtain ⟨S, rfl⟩ : ∃ S : Nat, s = S := ⟨s.toNat, by omega⟩
    rw [Int.toNat_natCast] at hf ⊢
    have hk0 : Oct.size n ≤ S ∧ ¬ Oct.size n = 0 := by
      rcases hf with ⟨f0, ⟨rfl, f1⟩ | ⟨rfl, f1⟩ | ⟨rfl, f1⟩ | ⟨rfl, f1⟩⟩ <;> unfold Oct.size <;> (repeat' split) <;> omega
    have hd : (S : Int) = 1 ∨ (S : Int) = 2 ∨ (S : Int) = 4 ∨ (S : Int) = 8 := by
      rcases hf with ⟨f0, ⟨rfl, f1⟩ | ⟨rfl, f1⟩ | ⟨rfl, f1⟩ | ⟨rfl, f1⟩⟩ <;> omega
    have hr' := hr
    generalize Oct.size n = k at *
    obtain ⟨k1, k2⟩ := hk0
    have H' := H.out
    have hp := hf.pos
    rcases hd with h | h | h | h
    all_goals rw [h] at k1 ⊢
    all_goals obtain rfl := Int.ofNat_inj.1 h
    · exact rputin_ok1 A m c l n w H' hs hf k k1 k2 hr'
    · exact rputin_ok2 A m c l n w H' hs hf k k1 k2 hr'
    · exact rputin_ok4 A m c l n w H' hs hf k k1 k2 hr'
    · exact rputin_ok8 A m c l n w H' hs hf k k1 k2 hr'

theorem rput_any (A : Option Addr) (m c : Nat) (l : List Int) (n : Int) (w : World) (h : Rb w A m c l) (hs : m ≤ 10000) :
    Calls Tryd.prog 38 #[.slice A m c, .int .i64 n] w fun e w' => ∃ v, e = .returned (.tuple #[v, .int .i64 (Oct.put l n).2]) ∧ OB w' w.heap.size v (Oct.put l n).1 ∧ Below w.heap.size w w' := by
  have hsz := rsize_any n w
  have hp := rputin_any A m c l n (max 1 (Oct.size n)) w h hs
  unfold Oct.put
  rw [show max (Oct.size n) 1 = max 1 (Oct.size n) by omega]
  generalize Oct.putIn l n (max 1 (Oct.size n)) = r at *
  clear h
  generalize Oct.size n = k at *
  obtain ⟨x, hx⟩ : ∃ x, max 1 k = x := ⟨_, rfl⟩
  rw [hx] at hp
  go_enter Tryd.func38, Tryd.ntmps38
  go_wp2_with fail
  refine hsz.mono ?_
  rintro e w1 ⟨rfl, rfl⟩
  go_wp2_with fail
  refine hp.mono ?_
  rintro e w2 ⟨v, rfl, ho, hb2⟩
  go_wp2
  go_ret2
  exact ⟨v, rfl, ho, hb2⟩
end Go.Proofs.YtpagdcobhbkabaaDoor
