/-
  The document's pacer (sounderref14): what each method does.
-/
import Derived.Test.YtniiemmgcjkphaaPacB
import Derived.Test.YtniiemmgcjkphaaBktG
namespace Go.Proofs.Ytniiemmgcjkphaa
open Go.RowKit Go.Sort

theorem rptime_same (n : Int) (w : World) :
    Calls Try.prog 67 #[.int .i64 n] w fun e w' => e = .returned (.bool (Sat.isN n)) ∧ w = w' := by
  by_cases h : 0 ≤ n
  · go_enter Try.func67, Try.ntmps67
    go_wp2
    go_ret
    exact ⟨rb (by simp [Sat.isN, h]), rfl⟩
  · go_enter Try.func67, Try.ntmps67
    go_wp2
    go_ret
    exact ⟨rb (by simp [Sat.isN]; omega), rfl⟩

theorem rpsize_same (n : Int) (w : World) :
    Calls Try.prog 71 #[.int .i64 n] w fun e w' => e = .returned (.bool (Pac.isSize n)) ∧ w = w' := by
  by_cases h : 1 ≤ n
  · go_enter Try.func71, Try.ntmps71
    go_wp2
    go_ret
    exact ⟨rb (by simp [Pac.isSize, h]), rfl⟩
  · go_enter Try.func71, Try.ntmps71
    go_wp2
    go_ret
    exact ⟨rb (by simp [Pac.isSize]; omega), rfl⟩

theorem rpnew_ok (B t : Int) (w : World) (h : Bkt.newOk B t = true) :
    Calls Try.prog 33 #[.int .i64 B, .int .i64 t] w fun e w' => ∃ p b : Nat, w.heap.size ≤ p ∧ w.heap.size ≤ b ∧ e = .returned (.tuple #[.pointer (some ⟨p, 0, none⟩), .int .i64 0]) ∧ RPk w' p b (Pac.start B t) ∧ Below w.heap.size w w' := by
  go_enter Try.func33, Try.ntmps33
  go_wp2_with fail
  refine (rbnew_ok B t _ h).mono ?_
  rintro e w1 ⟨rfl, hk, hb⟩
  replace hk := Lib.hid hk
  replace hb := Lib.hid hb
  go_wp2_with fail
  go_ret2
  exact ⟨_, _, hb.out.size, Nat.le_refl _, rfl, ⟨Blk.new w1 _ _, hk.out.kept (laterA (Below.refl _ _) _)⟩, laterA hb.out _⟩

theorem rpnew_no (B t : Int) (w : World) (h : Bkt.newOk B t = false) :
    Calls Try.prog 33 #[.int .i64 B, .int .i64 t] w fun e w' => e = .returned (.tuple #[.pointer none, .int .i64 2]) ∧ Below w.heap.size w w' := by
  go_enter Try.func33, Try.ntmps33
  go_wp2_with fail
  refine (rbnew_no B t _ h).mono ?_
  rintro e w1 ⟨rfl, hb⟩
  replace hb := Lib.hid hb
  go_wp2_with fail
  go_ret2
  exact ⟨rfl, hb.out⟩

theorem rpcopy_any (p b : Nat) (s : Pac.St) (w : World) (h : RPk w p b s) :
    Calls Try.prog 40 #[.pointer (some ⟨p, 0, none⟩)] w fun e w' => ∃ q c : Nat, w.heap.size ≤ q ∧ w.heap.size ≤ c ∧ e = .returned (.pointer (some ⟨q, 0, none⟩)) ∧ RPk w' q c s ∧ Below w.heap.size w w' := by
  have c0 := Blk.cell h.p 0
  have c1 := Blk.cell h.p 1
  have c2 := Blk.cell h.p 2
  simp at c0 c1 c2
  have hd := Lib.hid h.drew
  replace h := Lib.hid h
  go_enter Try.func40, Try.ntmps40
  go_wp2_with fail
  go_region_held3 (fun w' => w'.cell? ⟨p, 0, none⟩ = some (.pointer (some ⟨b, 0, none⟩)) ∧ w'.cell? ⟨p, 1, none⟩ = some (.int .i64 s.num) ∧ w'.cell? ⟨p, 2, none⟩ = some (.int .i64 s.den)) (first | exact ⟨c0, c1, c2⟩ | exact ⟨d0, d1, d2⟩ | go_keep) (first | (go_at_call 28; (with_reducible refine (rbcopy_any b s.b _ hd.out.b).mono ?_); rintro e w1 ⟨rfl, hk, ho⟩; have ho := low_undrew ho; have hp := Blk.later h.out.p ho; have d0 := hp.cell 0; have d1 := hp.cell 1; have d2 := hp.cell 2; simp at d0 d1 d2; replace hp := Lib.hid hp; replace hk := Lib.hid hk; replace ho := Lib.hid ho))
  go_wp2_with fail
  go_ret
  exact ⟨_, _, ho.out.size, Nat.le_refl _, rfl, ⟨Blk.new _ _ _, hk.out.kept (laterA (Below.refl _ _) _)⟩, laterA ho.out _⟩

theorem rpwhen_any (p b : Nat) (s : Pac.St) (n : Int) (w : World) (h : RPk w p b s) (hw : Pac.wf s) :
    Calls Try.prog 73 #[.pointer (some ⟨p, 0, none⟩), .int .i64 n] w fun e w' => e = .returned (.int .i64 (Pac.when_ s n)) ∧ Below w.heap.size w w' := by
  have c0 := Blk.cell h.p 0
  have c1 := Blk.cell h.p 1
  have c2 := Blk.cell h.p 2
  simp at c0 c1 c2
  have hd := Lib.hid h.drew
  replace h := Lib.hid h
  cases k2 : Pac.isSize n
  · rw [show Pac.when_ s n = -1 by simp [Pac.when_, k2]]
    go_enter Try.func73, Try.ntmps73
    go_wp2_with (first | (go_at_call 71; (with_reducible refine (rpsize_same _ _).mono ?_); rintro e w1 ⟨rfl, rfl⟩))
    go_ret
    exact ⟨rfl, Below.refl _ _⟩
  · rw [show Pac.when_ s n = Bkt.when_ s.b n s.num s.den by simp [Pac.when_, k2]]
    go_enter Try.func73, Try.ntmps73
    go_wp2_with (first | (go_at_call 71; (with_reducible refine (rpsize_same _ _).mono ?_); rintro e w1 ⟨rfl, rfl⟩))
    go_region_held3 (fun w' => w'.cell? ⟨p, 0, none⟩ = some (.pointer (some ⟨b, 0, none⟩)) ∧ w'.cell? ⟨p, 1, none⟩ = some (.int .i64 s.num) ∧ w'.cell? ⟨p, 2, none⟩ = some (.int .i64 s.den)) (first | exact ⟨c0, c1, c2⟩ | exact ⟨d0, d1, d2⟩) (first | (go_at_call 27; (with_reducible refine (rwhen_any b s.b n s.num s.den _ hd.out.b hw.b).mono ?_); rintro e w1 ⟨rfl, ho⟩; have ho := low_undrew ho; have hp := Blk.later h.out.p ho; have d0 := hp.cell 0; have d1 := hp.cell 1; have d2 := hp.cell 2; simp at d0 d1 d2; replace hp := Lib.hid hp; replace ho := Lib.hid ho))
    go_wp2_with fail
    go_ret
    exact ⟨rfl, ho.out⟩

theorem rcome_any (p b : Nat) (s : Pac.St) (t : Int) (w : World) (h : RPk w p b s) (hw : Pac.wf s) (ht : Sat.isN t = true) :
    Calls Try.prog 68 #[.pointer (some ⟨p, 0, none⟩), .int .i64 t] w fun e w' => e = .returned (.int .i64 (Pac.comeE s t)) ∧ RPk w' p b (Pac.come s t) ∧ w.grownBy w' (some b) := by
  have c0 := Blk.cell h.p 0
  have c1 := Blk.cell h.p 1
  have c2 := Blk.cell h.p 2
  have b3 := Blk.cell h.b 3
  simp at c0 c1 c2
  simp [cellsB] at b3
  have hd := Lib.hid h.drew
  have hne := h.ne
  have hm := hw.may
  by_cases hlt : t < s.b.t
  · have e0 : Pac.comeE s t = 210 := by unfold Pac.comeE Bkt.fillE; rw [ht, hm, if_pos (by rfl), if_pos hlt]
    have e1 := Pac.come_no (s := s) (t := t) (by omega)
    rw [e0, e1]
    replace h := Lib.hid h
    go_enter Try.func68, Try.ntmps68
    go_wp2_with fail
    go_ret
    exact ⟨rfl, h.out, one_refl _ _⟩
  · replace h := Lib.hid h
    go_enter Try.func68, Try.ntmps68
    go_wp2_with fail
    go_region_held3 (fun w' => w'.cell? ⟨p, 0, none⟩ = some (.pointer (some ⟨b, 0, none⟩)) ∧ w'.cell? ⟨p, 1, none⟩ = some (.int .i64 s.num) ∧ w'.cell? ⟨p, 2, none⟩ = some (.int .i64 s.den)) (first | exact ⟨c0, c1, c2⟩ | exact ⟨d0, d1, d2⟩) (first | (go_at_call 24; (with_reducible refine (rfill_any b s.b t s.num s.den _ hd.out.b hw.b).mono ?_); rintro e w1 ⟨rfl, hk, ho⟩; have ho := one_undrew ho; have hp := Blk.one h.out.p ho hne; have d0 := hp.cell 0; have d1 := hp.cell 1; have d2 := hp.cell 2; simp at d0 d1 d2; replace hp := Lib.hid hp; replace hk := Lib.hid hk; replace ho := Lib.hid ho))
    go_wp2_with fail
    go_ret
    exact ⟨rfl, ⟨hp.out, hk.out⟩, ho.out⟩

theorem rpset_any (p b : Nat) (s : Pac.St) (t cwnd smooth : Int) (w : World) (h : RPk w p b s) (hw : Pac.wf s) :
    Calls Try.prog 36 #[.pointer (some ⟨p, 0, none⟩), .int .i64 t, .int .i64 cwnd, .int .i64 smooth] w fun e w' => e = .returned (.int .i64 (Pac.setE s t cwnd smooth)) ∧ RPk w' p b (Pac.set s t cwnd smooth) ∧ Only (fun k => k = p ∨ k = b) w w' := by
  have hne := h.ne
  replace h := Lib.hid h
  have hno : Pac.setOk t cwnd smooth = false → Pac.setE s t cwnd smooth = 2 ∧ Pac.set s t cwnd smooth = s := fun hf => by
    have : Pac.setE s t cwnd smooth = 2 := by simp [Pac.setE, hf]
    exact ⟨this, by unfold Pac.set; rw [if_neg (by omega)]⟩
  cases k1 : Sat.isN t
  · obtain ⟨e1, e2⟩ := hno (by simp [Pac.setOk, k1])
    rw [e1, e2]
    clear e1 e2 hno
    go_enter Try.func36, Try.ntmps36
    go_wp2_with (first | (go_at_call 67; (with_reducible refine (rptime_same _ _).mono ?_); rintro e w1 ⟨rfl, rfl⟩))
    go_ret
    exact ⟨rfl, h.out, Only.refl _ _⟩
  · by_cases h1 : cwnd < 1
    · obtain ⟨e1, e2⟩ := hno (by simp [Pac.setOk]; omega)
      rw [e1, e2]
      clear e1 e2 hno
      go_enter Try.func36, Try.ntmps36
      go_wp2_with (first | (go_at_call 67; (with_reducible refine (rptime_same _ _).mono ?_); rintro e w1 ⟨rfl, rfl⟩))
      go_ret
      exact ⟨rfl, h.out, Only.refl _ _⟩
    · by_cases h2 : 1099511627776 < cwnd
      · obtain ⟨e1, e2⟩ := hno (by simp [Pac.setOk]; omega)
        rw [e1, e2]
        clear e1 e2 hno
        go_enter Try.func36, Try.ntmps36
        go_wp2_with (first | (go_at_call 67; (with_reducible refine (rptime_same _ _).mono ?_); rintro e w1 ⟨rfl, rfl⟩))
        go_ret
        exact ⟨rfl, h.out, Only.refl _ _⟩
      · cases k2 : Sat.isN smooth
        · obtain ⟨e1, e2⟩ := hno (by simp [Pac.setOk, k2])
          rw [e1, e2]
          clear e1 e2 hno
          go_enter Try.func36, Try.ntmps36
          go_wp2_with (first | (go_at_call 67; (with_reducible refine (rptime_same _ _).mono ?_); rintro e w1 ⟨rfl, rfl⟩))
          go_ret
          exact ⟨rfl, h.out, Only.refl _ _⟩
        · clear hno
          have ho : Pac.setOk t cwnd smooth = true := by rw [Pac.setOk_iff]; rw [Sat.isN_iff] at k1 k2; omega
          have hE : Pac.setE s t cwnd smooth = Pac.comeE s t := by unfold Pac.setE; rw [if_pos ho]
          have hcome := fun w h hw => rcome_any p b s t w h hw k1
          have hS : Pac.set s t cwnd smooth = if Pac.comeE s t = 0 then ⟨(Pac.come s t).b, 5 * cwnd, Pac.den4 smooth⟩ else s := by
            unfold Pac.set; rw [hE]; rfl
          have hcs := fun h => Pac.come_no (s := s) (t := t) h
          rw [hE, hS]
          have hsm : 0 ≤ smooth ∧ smooth ≤ 9007199254740991 := (Sat.isN_iff _).1 k2
          obtain ⟨s0, s1⟩ := hsm
          have hden : max 1 (min (4 * smooth) 9007199254740991) = Pac.den4 smooth := rfl
          clear hE hS ho
          generalize Pac.come s t = S at *
          generalize Pac.comeE s t = E at *
          generalize Pac.den4 smooth = dd at *
          have hcome := Lib.hid hcome
          by_cases hc : E = 0
          · subst hc
            rw [if_pos rfl]
            clear hcs
            go_enter Try.func36, Try.ntmps36
            go_wp2_with (first | (go_at_call 67; (with_reducible refine (rptime_same _ _).mono ?_); rintro e w1 ⟨rfl, rfl⟩))
            refine (hcome.out _ h.out hw).mono ?_
            rintro e w1 ⟨rfl, hk, ho⟩
            have z1 := Blk.frozen hk.p 1
            have z2 := Blk.frozen hk.p 2
            have d1 := Blk.cell hk.p 1
            have d2 := Blk.cell hk.p 2
            simp at d1 d2
            replace hk := Lib.hid hk
            replace ho := Lib.hid ho
            go_wp2_with fail
            go_ret
            exact ⟨rfl, ⟨(Blk.set_ hk.out.p 1 _).set_ 2 _, (Blk.far hk.out.b (p := ⟨p, 1, none⟩) (Ne.symm hne) _).far (p := ⟨p, 2, none⟩) (Ne.symm hne) _⟩, ((Only.of_grown ho.out (.inr rfl)).set (.inl rfl) _).set (.inl rfl) _⟩
          · rw [if_neg hc]
            have hcs := hcs hc
            subst hcs
            have hc' : (E == 0) = false := by simp [hc]
            go_enter Try.func36, Try.ntmps36
            go_wp2_with (first | (go_at_call 67; (with_reducible refine (rptime_same _ _).mono ?_); rintro e w1 ⟨rfl, rfl⟩))
            refine (hcome.out _ h.out hw).mono ?_
            rintro e w1 ⟨rfl, hk, ho⟩
            replace hk := Lib.hid hk
            replace ho := Lib.hid ho
            go_wp2_with fail
            go_ret
            exact ⟨rfl, hk.out, Only.of_grown ho.out (.inr rfl)⟩

/-- What a sending leaves: another bucket, or the same one. -/
def RSends (w : World) (p b : Nat) (S : Pac.St) (E : Int) (e : Ending) (w' : World) : Prop := e = .returned (.int .i64 E) ∧ ∃ c : Nat, (c = b ∨ w.heap.size ≤ c) ∧ RPk w' p c S ∧ w.grownBy w' (some p)

theorem rpsend_any (p b : Nat) (s : Pac.St) (t n : Int) (w : World) (h : RPk w p b s) (hw : Pac.wf s) :
    Calls Try.prog 38 #[.pointer (some ⟨p, 0, none⟩), .int .i64 t, .int .i64 n] w (RSends w p b (Pac.send s t n) (Pac.sendE s t n)) := by
  have hne := h.ne
  replace h := Lib.hid h
  have hno : Pac.sendE s t n ≠ 0 → Pac.send s t n = s := fun hf => by unfold Pac.send; rw [if_neg hf]
  cases k1 : Sat.isN t
  · have e0 : Pac.sendE s t n = 2 := by simp [Pac.sendE, k1]
    rw [hno (by omega), e0]
    clear hno e0
    go_enter Try.func38, Try.ntmps38
    go_wp2_with (first | (go_at_call 67; (with_reducible refine (rptime_same _ _).mono ?_); rintro e w1 ⟨rfl, rfl⟩) | (go_at_call 71; (with_reducible refine (rpsize_same _ _).mono ?_); rintro e w1 ⟨rfl, rfl⟩))
    go_ret
    exact ⟨rfl, b, .inl rfl, h.out, one_refl _ _⟩
  · cases k2 : Pac.isSize n
    · have e0 : Pac.sendE s t n = 2 := by simp [Pac.sendE, k2]
      rw [hno (by omega), e0]
      clear hno e0
      go_enter Try.func38, Try.ntmps38
      go_wp2_with (first | (go_at_call 67; (with_reducible refine (rptime_same _ _).mono ?_); rintro e w1 ⟨rfl, rfl⟩) | (go_at_call 71; (with_reducible refine (rpsize_same _ _).mono ?_); rintro e w1 ⟨rfl, rfl⟩))
      go_ret
      exact ⟨rfl, b, .inl rfl, h.out, one_refl _ _⟩
    · have e0 : Pac.sendE s t n = if Pac.comeE s t = 0 then (if Bkt.takeE (Bkt.fillS s.b t s.num s.den) n = 0 then 0 else 213) else Pac.comeE s t := by simp [Pac.sendE, k1, k2]
      have hcome := fun q c w h hw => rcome_any q c s t w h hw k1
      by_cases hc : Pac.comeE s t = 0
      · rw [if_pos hc] at e0
        rw [hc] at hcome
        have hT := Lib.hid (fun c => rtake_any c (Bkt.fillS s.b t s.num s.den) n)
        have hv := Lib.hid (Bkt.wf_fillS hw.b t s.num s.den)
        replace hcome := Lib.hid hcome
        by_cases hE : Bkt.takeE (Bkt.fillS s.b t s.num s.den) n = 0
        · rw [if_pos hE] at e0
          rw [show Pac.send s t n = { s with b := Bkt.takeS (Bkt.fillS s.b t s.num s.den) n } by unfold Pac.send; rw [if_pos e0], e0]
          rw [hE] at hT
          clear hno e0 hE hc
          go_enter Try.func38, Try.ntmps38
          go_wp2_with (first | (go_at_call 67; (with_reducible refine (rptime_same _ _).mono ?_); rintro e w1 ⟨rfl, rfl⟩) | (go_at_call 71; (with_reducible refine (rpsize_same _ _).mono ?_); rintro e w1 ⟨rfl, rfl⟩))
          refine (rpcopy_any p b s _ h.out).mono ?_
          rintro e w1 ⟨q, c, hq, hc, rfl, hk, hb⟩
          have hp1 := Lib.hid (h.out.kept hb)
          replace hk := Lib.hid hk
          replace hb := Lib.hid hb
          go_wp2_with fail
          refine (hcome.out q c _ hk.out hw).mono ?_
          rintro e w2 ⟨rfl, hk2, ho⟩
          have hb2 := Lib.hid (one_old hb.out ho hc hb.out.size)
          have hne2 : p ≠ c := by have := Blk.lt h.out.p; omega
          have hne4 : q ≠ c := hk.out.ne
          have hp2 := Lib.hid (Blk.one hp1.out.p ho hne2)
          clear ho
          have c0 := Blk.cell hk2.p 0
          simp at c0
          replace hk2 := Lib.hid hk2
          go_wp2_with fail
          refine (hT.out c _ hk2.out.b hv.out).mono ?_
          rintro e w3 ⟨rfl, hk3, ho⟩
          have hq3 := Blk.one hk2.out.p ho hne4
          have hb3 := Lib.hid (one_old hb2.out ho hc hb2.out.size)
          have hp3 := Blk.one hp2.out ho hne2
          clear ho c0
          have c0 := Blk.cell hq3 0
          simp at c0
          have z0 := Blk.frozen hp3 0
          have d0 := Blk.cell hp3 0
          simp at d0
          replace hk3 := Lib.hid hk3
          replace hq3 := Lib.hid hq3
          replace hp3 := Lib.hid hp3
          go_wp2_with fail
          go_ret
          exact ⟨rfl, c, .inr hc, ⟨Blk.set_ hp3.out 0 _, Blk.far hk3.out (p := ⟨p, 0, none⟩) (Ne.symm hne2) _⟩, one_set (one_of_low hb3.out) _ _⟩
        · rw [if_neg hE] at e0
          rw [hno (by omega), e0]
          have hE' : (Bkt.takeE (Bkt.fillS s.b t s.num s.den) n == 0) = false := by simp [hE]
          clear hno e0 hE hc
          generalize Bkt.takeE (Bkt.fillS s.b t s.num s.den) n = E at *
          go_enter Try.func38, Try.ntmps38
          go_wp2_with (first | (go_at_call 67; (with_reducible refine (rptime_same _ _).mono ?_); rintro e w1 ⟨rfl, rfl⟩) | (go_at_call 71; (with_reducible refine (rpsize_same _ _).mono ?_); rintro e w1 ⟨rfl, rfl⟩))
          refine (rpcopy_any p b s _ h.out).mono ?_
          rintro e w1 ⟨q, c, hq, hc, rfl, hk, hb⟩
          have hp1 := Lib.hid (h.out.kept hb)
          replace hk := Lib.hid hk
          replace hb := Lib.hid hb
          go_wp2_with fail
          refine (hcome.out q c _ hk.out hw).mono ?_
          rintro e w2 ⟨rfl, hk2, ho⟩
          have hb2 := Lib.hid (one_old hb.out ho hc hb.out.size)
          have hne2 : p ≠ c := by have := Blk.lt h.out.p; omega
          have hne3 : b ≠ c := by have := Blk.lt h.out.b; omega
          have hp2 := Lib.hid (Blk.one hp1.out.p ho hne2)
          have hx2 := Lib.hid (Blk.one hp1.out.b ho hne3)
          clear ho
          have c0 := Blk.cell hk2.p 0
          simp at c0
          replace hk2 := Lib.hid hk2
          go_wp2_with fail
          refine (hT.out c _ hk2.out.b hv.out).mono ?_
          rintro e w3 ⟨rfl, hk3, ho⟩
          have hb3 := Lib.hid (one_old hb2.out ho hc hb2.out.size)
          have hp3 := Lib.hid (Blk.one hp2.out ho hne2)
          have hx3 := Lib.hid (Blk.one hx2.out ho hne3)
          clear ho c0
          replace hk3 := Lib.hid hk3
          go_wp2_with fail
          go_ret
          exact ⟨rfl, b, .inl rfl, ⟨hp3.out, hx3.out⟩, one_of_low hb3.out⟩
      · rw [if_neg hc] at e0
        have hc' : (Pac.comeE s t == 0) = false := by simp [hc]
        rw [hno (by omega), e0]
        clear hno e0 hc
        generalize Pac.comeE s t = E at *
        replace hcome := Lib.hid hcome
        go_enter Try.func38, Try.ntmps38
        go_wp2_with (first | (go_at_call 67; (with_reducible refine (rptime_same _ _).mono ?_); rintro e w1 ⟨rfl, rfl⟩) | (go_at_call 71; (with_reducible refine (rpsize_same _ _).mono ?_); rintro e w1 ⟨rfl, rfl⟩))
        refine (rpcopy_any p b s _ h.out).mono ?_
        rintro e w1 ⟨q, c, hq, hc, rfl, hk, hb⟩
        have hp1 := Lib.hid (h.out.kept hb)
        replace hk := Lib.hid hk
        replace hb := Lib.hid hb
        go_wp2_with fail
        refine (hcome.out q c _ hk.out hw).mono ?_
        rintro e w2 ⟨rfl, hk2, ho⟩
        have hb2 := Lib.hid (one_old hb.out ho hc hb.out.size)
        have hne2 : p ≠ c := by have := Blk.lt h.out.p; omega
        have hne3 : b ≠ c := by have := Blk.lt h.out.b; omega
        have hp2 := Lib.hid (Blk.one hp1.out.p ho hne2)
        have hx2 := Lib.hid (Blk.one hp1.out.b ho hne3)
        clear ho
        replace hk2 := Lib.hid hk2
        go_wp2_with fail
        go_ret
        exact ⟨rfl, b, .inl rfl, ⟨hp2.out, hx2.out⟩, one_of_low hb2.out⟩

theorem rpcan_any (p b : Nat) (s : Pac.St) (t n : Int) (w : World) (h : RPk w p b s) (hw : Pac.wf s) :
    Calls Try.prog 72 #[.pointer (some ⟨p, 0, none⟩), .int .i64 t, .int .i64 n] w fun e w' => e = .returned (.bool (Pac.sendE s t n == 0)) ∧ Below w.heap.size w w' := by
  have hA := fun q c => rpsend_any q c s t n
  replace h := Lib.hid h
  generalize Pac.sendE s t n = E at *
  generalize Pac.send s t n = S at *
  replace hA := Lib.hid hA
  go_enter Try.func72, Try.ntmps72
  go_wp2_with fail
  refine (rpcopy_any p b s _ h.out).mono ?_
  rintro e w1 ⟨q, c, hq, hc, rfl, hk, hb⟩
  replace hk := Lib.hid hk
  replace hb := Lib.hid hb
  go_wp2_with fail
  refine (hA.out q c _ hk.out hw).mono ?_
  rintro e w2 ⟨rfl, d, hd, hk2, ho⟩
  have hb2 := Lib.hid (one_old hb.out ho hq hb.out.size)
  clear ho hk2 hd
  go_wp2_with fail
  go_ret
  exact ⟨rfl, hb2.out⟩

theorem rpleft_any (p b : Nat) (s : Pac.St) (t : Int) (w : World) (h : RPk w p b s) (hw : Pac.wf s) :
    Calls Try.prog 74 #[.pointer (some ⟨p, 0, none⟩), .int .i64 t] w fun e w' => e = .returned (.int .i64 (Pac.left s t)) ∧ Below w.heap.size w w' := by
  have hv := Lib.hid (Pac.wf_come hw t)
  replace h := Lib.hid h
  cases k1 : Sat.isN t
  · rw [show Pac.left s t = 0 by simp [Pac.left, Pac.comeE, Bkt.fillE, k1]]
    go_enter Try.func74, Try.ntmps74
    go_wp2_with fail
    refine (rpcopy_any p b s _ h.out).mono ?_
    rintro e w1 ⟨q, c, hq, hc, rfl, hk, hb⟩
    replace hk := Lib.hid hk
    replace hb := Lib.hid hb
    go_wp2_with (first | (go_at_call 67; (with_reducible refine (rptime_same _ _).mono ?_); rintro e w1 ⟨rfl, rfl⟩))
    go_ret
    exact ⟨rfl, hb.out⟩
  · have hcome := fun q c w h hw => rcome_any q c s t w h hw k1
    by_cases hc : Pac.comeE s t = 0
    · rw [show Pac.left s t = (Pac.come s t).b.n by simp [Pac.left, hc, Pac.come]]
      rw [hc] at hcome
      clear hc
      generalize Pac.come s t = S at *
      replace hcome := Lib.hid hcome
      go_enter Try.func74, Try.ntmps74
      go_wp2_with fail
      refine (rpcopy_any p b s _ h.out).mono ?_
      rintro e w1 ⟨q, c, hq, hc, rfl, hk, hb⟩
      replace hk := Lib.hid hk
      replace hb := Lib.hid hb
      go_wp2_with (first | (go_at_call 67; (with_reducible refine (rptime_same _ _).mono ?_); rintro e w1 ⟨rfl, rfl⟩) | fail)
      refine (hcome.out q c _ hk.out hw).mono ?_
      rintro e w2 ⟨rfl, hk2, ho⟩
      have hb2 := Lib.hid (one_old hb.out ho hc hb.out.size)
      have c0 := Blk.cell hk2.p 0
      have c1 := Blk.cell hk2.b 1
      simp at c0
      simp [cellsB] at c1
      replace hk2 := Lib.hid hk2
      clear ho
      go_wp2_with fail
      go_ret
      exact ⟨rfl, hb2.out⟩
    · rw [show Pac.left s t = 0 by simp [Pac.left, hc]]
      have hc' : (Pac.comeE s t == 0) = false := by simp [hc]
      clear hc
      generalize Pac.comeE s t = E at *
      replace hcome := Lib.hid hcome
      go_enter Try.func74, Try.ntmps74
      go_wp2_with fail
      refine (rpcopy_any p b s _ h.out).mono ?_
      rintro e w1 ⟨q, c, hq, hc, rfl, hk, hb⟩
      replace hk := Lib.hid hk
      replace hb := Lib.hid hb
      go_wp2_with (first | (go_at_call 67; (with_reducible refine (rptime_same _ _).mono ?_); rintro e w1 ⟨rfl, rfl⟩) | fail)
      refine (hcome.out q c _ hk.out hw).mono ?_
      rintro e w2 ⟨rfl, hk2, ho⟩
      have hb2 := Lib.hid (one_old hb.out ho hc hb.out.size)
      replace hk2 := Lib.hid hk2
      clear ho
      go_wp2_with fail
      go_ret
      exact ⟨rfl, hb2.out⟩

end Go.Proofs.Ytniiemmgcjkphaa
