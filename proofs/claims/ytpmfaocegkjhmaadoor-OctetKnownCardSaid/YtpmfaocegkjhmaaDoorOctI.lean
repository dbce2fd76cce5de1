/-
  Layer 2: the program's Strict.
-/
import Derived.Test.YtpmfaocegkjhmaaDoorOctH
namespace Go.Proofs.YtpmfaocegkjhmaaDoor
open Go.RowKit Go.Sort Go.Shelf Go.Deep Go.WideShapes

/-- How many bytes the slice in a reader's first field has. -/
def lenAt (w : World) (p : Nat) : Nat := match w.cell? ⟨p, 0, none⟩ with | some (.slice _ n _) => n | _ => 0
theorem Rdr.lenAt {w : World} {p q : Nat} {s : Oct.St} (h : Rdr w p q s) : lenAt w p = s.l.length := by
  obtain ⟨A, n, c, hx, hsl, _⟩ := h
  have y0 := hx.cell 0
  simp at y0
  unfold Go.Proofs.YtpmfaocegkjhmaaDoor.lenAt
  rw [y0]
  exact hsl.1.symm

theorem old_later2 {B : Nat} {a w w' : World} (h : Below B a w) (k : Below w.heap.size w w') (hs : B ≤ w.heap.size) : Below B a w' := h.trans (k.mono hs)

set_option maxHeartbeats 2000000 in
set_option maxRecDepth 100000 in
theorem strict_any (A : Option Addr) (n c q : Nat) (l : List Int) (w : World) (hL : Lim w) (h : Sl w q A n c l) (hs : n ≤ 1000) (hl : Oct.Bys l) :
    Calls Tryd.prog 21 #[.slice A n c] w fun e w' => e = .returned (.bool (Oct.strict l)) ∧ Below w.heap.size w w' := by
  have hc := newr_any A n c q l w h hs hl
  have hLl := hL.lt
  replace hL := Lib.hid hL
  clear h
  go_enter Tryd.func21, Tryd.ntmps21
  go_wp2_with fail
  refine hc.mono ?_
  clear hc
  rintro e w1 ⟨p, q1, rfl, hr, hp, hq, hpq, hb⟩
  replace hr := Lib.hid hr
  replace hb := Lib.hid hb
  go_wp2_with fail
  go_loopw [5] (fun _ wr => ∃ l', Rdr wr p q1 ⟨l', 0⟩ ∧ Oct.strict l = Oct.strict l' ∧ Below w.heap.size w wr) (fun _ wr => lenAt wr p)
  case atStart => exact ⟨l, hr.out, rfl, hb.out⟩
  case round =>
    clear hr hb
    obtain ⟨l', hr, hst, hb⟩ := hrel
    have hlen := Lib.hid hr.lenAt
    have hLr := Lib.hid (hL.out.later hb)
    replace hr := Lib.hid hr
    replace hb := Lib.hid hb
    go_wp2_with fail
    refine (left_any p q1 _ wr hr.out).mono ?_
    rintro e w2 ⟨rfl, rfl⟩
    cases l' with
    | nil =>
      go_wp2
      go_ret
      exact ⟨by rw [hst]; rfl, hb.out⟩
    | cons b t =>
      have hpos : ((b :: t).length : Int) > 0 := by simp
      have hstep := Oct.strict_step b t
      have hleft := @Oct.numL_left (b :: t)
      have hnum := num_any p q1 ⟨b :: t, 0⟩ wr hr.out hpq
      rw [show Oct.num ⟨b :: t, 0⟩ = Oct.numL (b :: t) from rfl] at hnum
      generalize Oct.numL (b :: t) = r at *
      obtain ⟨x, l2, e2⟩ := r
      simp only at hstep hnum hleft
      have hlb := Lib.hid hr.out.lt
      obtain ⟨N, hN⟩ : ∃ N, (b :: t).length = N := ⟨_, rfl⟩
      rw [hN] at hpos hstep hleft
      go_wp2_with fail
      refine (left_any p q1 _ wr hr.out).mono ?_
      rintro e w2 ⟨rfl, rfl⟩
      simp only [hN]
      go_wp2_with fail
      refine hnum.mono ?_
      rintro e w2 ⟨rfl, hr2, ho⟩
      have hb2 := only_old hb.out ho (by rintro k rfl; exact hp) hb.out.size
      have hL2 := hL.out.later hb2
      replace hr2 := Lib.hid hr2
      replace hb2 := Lib.hid hb2
      replace hL2 := Lib.hid hL2
      go_wp2_with fail
      refine (err_any p q1 _ w2 hr2.out).mono ?_
      rintro e w3 ⟨rfl, rfl⟩
      by_cases e0 : e2 = 0
      · subst e0
        have hlt := hleft rfl
        go_wp2_with fail
        refine (left_any p q1 _ w2 hr2.out).mono ?_
        rintro e w3 ⟨rfl, rfl⟩
        go_wp2_with fail
        refine (size_any x w2 hL2.out).mono ?_
        rintro e w3 ⟨rfl, hb3⟩
        obtain ⟨M, hM⟩ : ∃ M, l2.length = M := ⟨_, rfl⟩
        simp only [hM] at hstep hlt ⊢
        have hNM : N ≤ 1000 := by
          obtain ⟨_, n', _, _, hsl', _, hs'⟩ := hr.out
          have := hsl'.1
          simp only at this
          omega
        have hsub : wrap64 ((N : Int) - (M : Int)) = (N : Int) - (M : Int) := by unfold wrap64; omega
        have hb4 := old_later2 hb2.out hb3 hb2.out.size
        have hr4 := hr2.out.later hb3
        replace hr4 := Lib.hid hr4
        replace hb4 := Lib.hid hb4
        by_cases hd : (N : Int) - (M : Int) = Oct.size x
        · rw [if_pos ⟨trivial, hd⟩] at hstep
          have hd' : ((N : Int) - (M : Int) != Oct.size x) = false := by rw [hd]; simp
          replace hstep := Lib.hid hstep
          replace hd := Lib.hid hd
          generalize Oct.size x = z at *
          go_wp2
          refine ⟨⟨l2, hr4.out, hst.trans hstep.out, hb4.out⟩, ?_⟩
          have := hr4.out.lenAt
          rw [hlen.out, this]
          simp only at *
          omega
        · rw [if_neg (fun hh => hd hh.2)] at hstep
          have hd' : ((N : Int) - (M : Int) != Oct.size x) = true := by simpa using hd
          replace hstep := Lib.hid hstep
          generalize Oct.size x = z at *
          go_wp2
          go_ret
          exact ⟨by rw [hst, hstep.out]; rfl, hb4.out⟩
      · rw [if_neg (fun hh => e0 hh.1)] at hstep
        replace hstep := Lib.hid hstep
        go_wp2
        go_ret
        exact ⟨by rw [hst, hstep.out]; rfl, hb2.out⟩
end Go.Proofs.YtpmfaocegkjhmaaDoor
