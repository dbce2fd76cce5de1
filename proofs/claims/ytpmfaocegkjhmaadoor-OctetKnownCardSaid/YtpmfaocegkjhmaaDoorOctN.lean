/-
  Layer 2: OctetWrites.
-/
import Derived.Test.YtpmfaocegkjhmaaDoorOctM
namespace Go.Proofs.YtpmfaocegkjhmaaDoor
open Go.RowKit Go.Sort Go.Shelf Go.Deep Go.WideShapes

theorem rb_to {w : World} {n c : Nat} {A : Option Addr} {l : List Int} (h : Rb w A n c l) {K : Nat} (hK : K ≤ n) :
    ∃ A2, (∀ W : World, (Instr.slice 22 (.slice A n c) none (some (.int .i64 (K : Int))) none).run Tryd.prog W = .ok (.slice A2 K c) W) ∧ Rb w A2 K c (l.take K) := by
  obtain ⟨h1, h2, h3, h4⟩ := h
  have he : Tryd.prog.elem 22 = 5 := by simp [Program.elem, Tryd.underlying22]
  have ht' : Tryd.prog.underlying 22 = some (.slice (Tryd.prog.elem 22)) := by rw [he]; exact Tryd.underlying22
  refine ⟨if c = 0 then A else A.map (·.add (0 * 1)), fun W => ?_, by rw [List.length_take, h1]; omega, by omega, h3, ?_⟩
  · rw [run_slice_h W 22 _ _ _ ht' .i64 _ (by omega) (by omega), he, Tryd.sizeOf5 W]
    rfl
  · rcases h4 with ⟨rfl, rfl, rfl⟩ | ⟨a, rfl, h5⟩
    · left; exact ⟨by split <;> rfl, by omega, rfl⟩
    · right
      split
      · refine ⟨a, rfl, fun k hk => ?_⟩
        rw [List.length_take] at hk
        omega
      · refine ⟨_, rfl, fun k hk => ?_⟩
        rw [List.length_take] at hk
        rw [List.getElem_take]
        show w.cell? ((a.add (0 * 1)).add k) = _
        rw [Go.Deep.add_add, Nat.zero_mul, Nat.zero_add]
        exact h5 k (by omega)
theorem bys_putIn {l : List Int} (hl : Oct.Bys l) (n s : Int) : Oct.Bys (Oct.putIn l n s).1 := by
  rcases Oct.putIn_cases l n s with ⟨h, _⟩ | ⟨h, _⟩ | ⟨h, _, _, hf, _⟩ <;> rw [h]
  · exact Oct.Bys.nil
  · exact Oct.Bys.nil
  · exact hl.app (Oct.enc_bys hf)
theorem bys_put {l : List Int} (hl : Oct.Bys l) (n : Int) : Oct.Bys (Oct.put l n).1 := bys_putIn hl n _
theorem OB.rb {w : World} {B : Nat} {v : Value} {l : List Int} (h : OB w B v l) : ∃ A c, v = .slice A l.length c ∧ Rb w A l.length c l := by
  obtain ⟨q, A, c, rfl, _, hs, _⟩ := h.open_
  exact ⟨A, c, rfl, hs.rb⟩
theorem Sp.sl {w : World} {B n c : Nat} {A : Option Addr} {l : List Int} (h : Sp w B A n c l) : ∃ g, Sl w g A n c l := by
  obtain ⟨g, h1, h2, h3, h4, h5⟩ := h
  exact ⟨g, h3⟩

set_option maxHeartbeats 4000000 in
set_option maxRecDepth 100000 in
theorem writes_any (A : Option Addr) (n c : Nat) (l : List Int) (x s : Int) (w : World) (hL : Lim w) (h : Rb w A n c l) (hl : Oct.Bys l) :
    Calls Tryd.prog 3 #[.slice A n c, .int .i64 x, .int .i64 s] w fun e w' => e = .returned (.bool true) ∧ Below w.heap.size w w' := by
  obtain ⟨K, hK⟩ : ∃ K : Nat, min (n : Int) 40 = (K : Int) := ⟨(min (n : Int) 40).toNat, by omega⟩
  obtain ⟨A2, hsl, hr⟩ := rb_to h (K := K) (by omega)
  have hl2 := hl.take K
  have hK2 : K ≤ 1000 := by omega
  generalize l.take K = l at *
  clear h hl
  rename_i l0
  clear l0
  have hS := spare_any A2 K c l w hr hK2
  replace hL := Lib.hid hL
  replace hr := Lib.hid hr
  go_enter Tryd.func3, Tryd.ntmps3
  go_wp2_with fail
  refine hS.mono ?_
  clear hS
  rintro e w1 ⟨A1, c1, rfl, hsp, hb1⟩
  have hr1 := Lib.hid (hr.out.later hb1)
  have hL1 := Lib.hid (hL.out.later hb1)
  obtain ⟨g, hg⟩ := hsp.sl
  have hP := put_any A1 K c1 g l x w1 hL1.out hg hK2
  have hb0 := Lib.hid hb1
  have hsp1 := Lib.hid hsp
  have hg1 := Lib.hid hg
  clear hsp hg hb1 hr hL
  have hby := Lib.hid (bys_put hl2 x)
  have hby2 := Lib.hid (bys_putIn hl2 x s)
  generalize hR : Oct.put l x = R at *
  generalize hT : Oct.putIn l x s = T at *
  obtain ⟨R1, R2⟩ := R
  obtain ⟨T1, T2⟩ := T
  have hR' := Lib.hid hR
  have hT' := Lib.hid hT
  clear hR hT
  go_wp2_with fail
  refine hP.mono ?_
  rintro e w2 ⟨v, rfl, ho, hb⟩
  obtain ⟨A3, c3, rfl, h3⟩ := ho.rb
  clear ho hP
  replace hr1 := Lib.hid (hr1.out.later hb)
  replace hL1 := Lib.hid (hL1.out.later hb)
  replace hsp1 := Lib.hid (hsp1.out.later hb)
  replace hg1 := Lib.hid (hg1.out.later hb)
  replace hb0 := Lib.hid (later hb0.out hb)
  clear hb
  replace h3 := Lib.hid h3
  have hQ := rput_any A2 K c l x w2 hr1.out hK2
  rw [hR'.out] at hQ
  go_wp2_with fail
  refine hQ.mono ?_
  rintro e w3 ⟨v, rfl, ho, hb⟩
  obtain ⟨A4, c4, rfl, h4⟩ := ho.rb
  clear ho hQ
  replace hr1 := Lib.hid (hr1.out.later hb)
  replace hL1 := Lib.hid (hL1.out.later hb)
  replace hsp1 := Lib.hid (hsp1.out.later hb)
  replace hg1 := Lib.hid (hg1.out.later hb)
  replace h3 := Lib.hid (h3.out.later hb)
  replace hb0 := Lib.hid (later hb0.out hb)
  clear hb
  replace h4 := Lib.hid h4
  have hQ := putin_any A1 K c1 g l x s w3 hL1.out hg1.out hK2
  rw [hT'.out] at hQ
  go_wp2_with fail
  refine hQ.mono ?_
  rintro e w4 ⟨v, rfl, ho, hb⟩
  obtain ⟨A5, c5, rfl, h5⟩ := ho.rb
  clear ho hQ
  replace hr1 := Lib.hid (hr1.out.later hb)
  replace hL1 := Lib.hid (hL1.out.later hb)
  replace hsp1 := Lib.hid (hsp1.out.later hb)
  replace hg1 := Lib.hid (hg1.out.later hb)
  replace h3 := Lib.hid (h3.out.later hb)
  replace h4 := Lib.hid (h4.out.later hb)
  replace hb0 := Lib.hid (later hb0.out hb)
  clear hb
  replace h5 := Lib.hid h5
  have hQ := rputin_any A2 K c l x s w4 hr1.out hK2
  rw [hT'.out] at hQ
  go_wp2_with fail
  refine hQ.mono ?_
  rintro e w5 ⟨v, rfl, ho, hb⟩
  obtain ⟨A6, c6, rfl, h6⟩ := ho.rb
  clear ho hQ
  replace hr1 := Lib.hid (hr1.out.later hb)
  replace hL1 := Lib.hid (hL1.out.later hb)
  replace hsp1 := Lib.hid (hsp1.out.later hb)
  replace hg1 := Lib.hid (hg1.out.later hb)
  replace h3 := Lib.hid (h3.out.later hb)
  replace h4 := Lib.hid (h4.out.later hb)
  replace h5 := Lib.hid (h5.out.later hb)
  replace hb0 := Lib.hid (later hb0.out hb)
  clear hb
  replace h6 := Lib.hid h6
  go_wp2_with fail
  refine (eqb_same h3.out h4.out hby.out).mono ?_
  rintro e w6 ⟨rfl, rfl⟩
  go_wp2_with fail
  refine (eqb_same h5.out h6.out hby2.out).mono ?_
  rintro e w6 ⟨rfl, rfl⟩
  have hz1 := size_any x w5 hL1.out
  have hz2 := fun W => rsize_any x W
  generalize Oct.size x = z at *
  go_wp2_with fail
  refine hz1.mono ?_
  rintro e w6 ⟨rfl, hb⟩
  replace hr1 := Lib.hid (hr1.out.later hb)
  replace hL1 := Lib.hid (hL1.out.later hb)
  replace hsp1 := Lib.hid (hsp1.out.later hb)
  replace hb0 := Lib.hid (later hb0.out hb)
  clear hb hz1 h3 h4 h5 h6 hg1
  go_wp2_with fail
  refine (hz2 w6).mono ?_
  rintro e w7 ⟨rfl, rfl⟩
  go_wp2_with fail
  refine (eqb_same hsp1.out.rb hr1.out hl2).mono ?_
  rintro e w7 ⟨rfl, rfl⟩
  go_wp2_with fail
  refine (free_any A1 K c1 _ l w6 hsp1.out hK2).mono ?_
  rintro e w7 ⟨rfl, rfl⟩
  go_wp2_with fail
  refine (works_any w6 hL1.out).mono ?_
  rintro e w7 ⟨rfl, hb⟩
  go_wp2
  go_ret
  exact ⟨rfl, later hb0.out hb⟩
end Go.Proofs.YtpmfaocegkjhmaaDoor
