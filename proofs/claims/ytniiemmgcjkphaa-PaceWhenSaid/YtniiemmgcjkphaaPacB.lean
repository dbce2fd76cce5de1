/-
  Package pace: what each method does.
-/
import Derived.Test.YtniiemmgcjkphaaPac
namespace Go.Proofs.Ytniiemmgcjkphaa
open Go.RowKit Go.Sort

theorem ptime_same (n : Int) (w : World) :
    Calls Try.prog 65 #[.int .i64 n] w fun e w' => e = .returned (.bool (Sat.isN n)) ∧ w = w' := by
  by_cases h : 0 ≤ n
  · go_enter Try.func65, Try.ntmps65
    go_wp2
    go_ret
    exact ⟨rb (by simp [Sat.isN, h]), rfl⟩
  · go_enter Try.func65, Try.ntmps65
    go_wp2
    go_ret
    exact ⟨rb (by simp [Sat.isN]; omega), rfl⟩

theorem psize_same (n : Int) (w : World) :
    Calls Try.prog 75 #[.int .i64 n] w fun e w' => e = .returned (.bool (Pac.isSize n)) ∧ w = w' := by
  by_cases h : 1 ≤ n
  · go_enter Try.func75, Try.ntmps75
    go_wp2
    go_ret
    exact ⟨rb (by simp [Pac.isSize, h]), rfl⟩
  · go_enter Try.func75, Try.ntmps75
    go_wp2
    go_ret
    exact ⟨rb (by simp [Pac.isSize]; omega), rfl⟩

theorem one_of_low {a b : World} {g : Nat} (h : Below a.heap.size a b) : a.grownBy b (some g) := ⟨h.os, h.tape, h.output, h.size, fun k hk _ => h.block k hk⟩

theorem pnone_same (p b : Nat) (num den : Int) (w : World) (h : PcB w p b num den) :
    Calls Try.prog 64 #[.pointer (some ⟨p, 0, none⟩)] w fun e w' => e = .returned (.bool false) ∧ w = w' := by
  have c0 := Blk.cell h 0
  simp at c0
  clear h
  go_enter Try.func64, Try.ntmps64
  go_wp2
  go_ret
  exact ⟨rfl, rfl⟩

theorem pnew_ok (B t : Int) (w : World) (h : Bkt.newOk B t = true) :
    Calls Try.prog 32 #[.int .i64 B, .int .i64 t] w fun e w' => ∃ p b : Nat, w.heap.size ≤ p ∧ w.heap.size ≤ b ∧ e = .returned (.tuple #[.pointer (some ⟨p, 0, none⟩), .int .i64 0]) ∧ Pk w' p b (Pac.start B t) ∧ Below w.heap.size w w' := by
  go_enter Try.func32, Try.ntmps32
  go_wp2_with fail
  refine (bnew_ok B t _ h).mono ?_
  rintro e w1 ⟨rfl, hk, hb⟩
  replace hk := Lib.hid hk
  replace hb := Lib.hid hb
  go_wp2_with fail
  go_ret2
  exact ⟨_, _, hb.out.size, Nat.le_refl _, rfl, ⟨Blk.new w1 _ _, hk.out.kept (laterA (Below.refl _ _) _)⟩, laterA hb.out _⟩

theorem pnew_no (B t : Int) (w : World) (h : Bkt.newOk B t = false) :
    Calls Try.prog 32 #[.int .i64 B, .int .i64 t] w fun e w' => e = .returned (.tuple #[.pointer none, .int .i64 2]) ∧ Below w.heap.size w w' := by
  go_enter Try.func32, Try.ntmps32
  go_wp2_with fail
  refine (bnew_no B t _ h).mono ?_
  rintro e w1 ⟨rfl, hb⟩
  replace hb := Lib.hid hb
  go_wp2_with fail
  go_ret2
  exact ⟨rfl, hb.out⟩

theorem come_any (p b : Nat) (s : Pac.St) (t : Int) (w : World) (h : Pk w p b s) (hw : Pac.wf s) :
    Calls Try.prog 66 #[.pointer (some ⟨p, 0, none⟩), .int .i64 t] w fun e w' => e = .returned (.int .i64 (Pac.comeE s t)) ∧ Pk w' p b (Pac.come s t) ∧ w.grownBy w' (some b) := by
  have c0 := Blk.cell h.p 0
  have c1 := Blk.cell h.p 1
  have c2 := Blk.cell h.p 2
  simp at c0 c1 c2
  have hd := Lib.hid h.drew
  have hne := h.ne
  replace h := Lib.hid h
  go_enter Try.func66, Try.ntmps66
  go_wp2_with fail
  go_region_held3 (fun w' => w'.cell? ⟨p, 0, none⟩ = some (.pointer (some ⟨b, 0, none⟩)) ∧ w'.cell? ⟨p, 1, none⟩ = some (.int .i64 s.num) ∧ w'.cell? ⟨p, 2, none⟩ = some (.int .i64 s.den)) (first | exact ⟨c0, c1, c2⟩ | exact ⟨d0, d1, d2⟩) (first | (go_at_call 19; (with_reducible refine (fill_any b s.b t s.num s.den _ hd.out.b hw.b).mono ?_); rintro e w1 ⟨rfl, hk, ho⟩; have ho := one_undrew ho; have hp := Blk.one h.out.p ho hne; have d0 := hp.cell 0; have d1 := hp.cell 1; have d2 := hp.cell 2; simp at d0 d1 d2; replace hp := Lib.hid hp; replace hk := Lib.hid hk; replace ho := Lib.hid ho))
  go_wp2_with fail
  go_ret
  exact ⟨rfl, ⟨hp.out, hk.out⟩, ho.out⟩

namespace Pac
/-- How a pacer stands when it has come and taken, as far as it could. -/
def sent (s : St) (t n : Int) : St := if (Sat.isN t && isSize n) = true ∧ comeE s t = 0 then { s with b := Bkt.takeS (Bkt.fillS s.b t s.num s.den) n } else s
theorem come_no {s : St} {t : Int} (h : ¬ comeE s t = 0) : come s t = s := by
  unfold come Bkt.fillS
  unfold comeE at h
  rw [if_neg h]
theorem sent_send {s : St} {t n : Int} (h : sendE s t n = 0) : sent s t n = send s t n := by
  unfold sendE at h
  unfold sent send
  by_cases c : (Sat.isN t && isSize n) = true
  · rw [if_pos c] at h
    by_cases d : comeE s t = 0
    · rw [if_pos ⟨c, d⟩, if_pos (by unfold sendE; rw [if_pos c]; exact h)]
    · rw [if_neg d] at h; exact absurd h d
  · rw [if_neg c] at h; omega
end Pac

theorem send_in (p b : Nat) (s : Pac.St) (t n : Int) (w : World) (h : Pk w p b s) (hw : Pac.wf s) :
    Calls Try.prog 70 #[.pointer (some ⟨p, 0, none⟩), .int .i64 t, .int .i64 n] w fun e w' => e = .returned (.int .i64 (Pac.sendE s t n)) ∧ Pk w' p b (Pac.sent s t n) ∧ w.grownBy w' (some b) := by
  have hne := h.ne
  replace h := Lib.hid h
  cases k1 : Sat.isN t
  · rw [show Pac.sendE s t n = 2 by simp [Pac.sendE, k1], show Pac.sent s t n = s by simp [Pac.sent, k1]]
    go_enter Try.func70, Try.ntmps70
    go_wp2_with (first | (go_at_call 65; (with_reducible refine (ptime_same _ _).mono ?_); rintro e w1 ⟨rfl, rfl⟩) | (go_at_call 75; (with_reducible refine (psize_same _ _).mono ?_); rintro e w1 ⟨rfl, rfl⟩))
    go_ret
    exact ⟨rfl, h.out, one_refl _ _⟩
  · cases k2 : Pac.isSize n
    · rw [show Pac.sendE s t n = 2 by simp [Pac.sendE, k2], show Pac.sent s t n = s by simp [Pac.sent, k2]]
      go_enter Try.func70, Try.ntmps70
      go_wp2_with (first | (go_at_call 65; (with_reducible refine (ptime_same _ _).mono ?_); rintro e w1 ⟨rfl, rfl⟩) | (go_at_call 75; (with_reducible refine (psize_same _ _).mono ?_); rintro e w1 ⟨rfl, rfl⟩))
      go_ret
      exact ⟨rfl, h.out, one_refl _ _⟩
    · have e0 : Pac.sendE s t n = if Pac.comeE s t = 0 then (if Bkt.takeE (Bkt.fillS s.b t s.num s.den) n = 0 then 0 else 213) else Pac.comeE s t := by simp [Pac.sendE, k1, k2]
      have hcome := Lib.hid (come_any p b s t)
      by_cases hc : Pac.comeE s t = 0
      · rw [if_pos hc] at e0
        have hsent : Pac.sent s t n = { s with b := Bkt.takeS (Bkt.fillS s.b t s.num s.den) n } := by simp [Pac.sent, k1, k2, hc]
        rw [hc] at hcome
        have hT := Lib.hid (take_any b (Bkt.fillS s.b t s.num s.den) n)
        have hv := Lib.hid (Bkt.wf_fillS hw.b t s.num s.den)
        have e0 := Lib.hid e0
        replace hsent := Lib.hid hsent
        clear hc
        generalize Bkt.takeE (Bkt.fillS s.b t s.num s.den) n = E at *
        by_cases hE : E = 0
        · subst hE
          go_enter Try.func70, Try.ntmps70
          go_wp2_with (first | (go_at_call 65; (with_reducible refine (ptime_same _ _).mono ?_); rintro e w1 ⟨rfl, rfl⟩) | (go_at_call 75; (with_reducible refine (psize_same _ _).mono ?_); rintro e w1 ⟨rfl, rfl⟩))
          refine (hcome.out _ h.out hw).mono ?_
          rintro e w1 ⟨rfl, hk, ho⟩
          have c0 := Blk.cell hk.p 0
          simp at c0
          replace hk := Lib.hid hk
          replace ho := Lib.hid ho
          go_wp2_with fail
          refine (hT.out _ hk.out.b hv.out).mono ?_
          rintro e w2 ⟨rfl, hk2, ho2⟩
          have hp := Lib.hid (Blk.one hk.out.p ho2 hne)
          replace hk2 := Lib.hid hk2
          replace ho2 := Lib.hid ho2
          clear c0
          go_wp2_with fail
          go_ret
          refine ⟨by rw [e0.out]; rfl, ?_, one_trans ho.out ho2.out⟩
          rw [hsent.out]
          exact ⟨hp.out, hk2.out⟩
        · have hE' : (E == 0) = false := by simp [hE]
          go_enter Try.func70, Try.ntmps70
          go_wp2_with (first | (go_at_call 65; (with_reducible refine (ptime_same _ _).mono ?_); rintro e w1 ⟨rfl, rfl⟩) | (go_at_call 75; (with_reducible refine (psize_same _ _).mono ?_); rintro e w1 ⟨rfl, rfl⟩))
          refine (hcome.out _ h.out hw).mono ?_
          rintro e w1 ⟨rfl, hk, ho⟩
          have c0 := Blk.cell hk.p 0
          simp at c0
          replace hk := Lib.hid hk
          replace ho := Lib.hid ho
          go_wp2_with fail
          refine (hT.out _ hk.out.b hv.out).mono ?_
          rintro e w2 ⟨rfl, hk2, ho2⟩
          have hp := Lib.hid (Blk.one hk.out.p ho2 hne)
          replace hk2 := Lib.hid hk2
          replace ho2 := Lib.hid ho2
          clear c0
          go_wp2_with fail
          go_ret
          refine ⟨by rw [e0.out, if_neg hE]; rfl, ?_, one_trans ho.out ho2.out⟩
          rw [hsent.out]
          exact ⟨hp.out, hk2.out⟩
      · rw [if_neg hc] at e0
        have hsent : Pac.sent s t n = s := by simp [Pac.sent, hc]
        have hcs := Lib.hid (Pac.come_no hc)
        rw [e0, hsent]
        have hc' : (Pac.comeE s t == 0) = false := by simp [hc]
        clear e0 hsent
        generalize Pac.comeE s t = E at *
        go_enter Try.func70, Try.ntmps70
        go_wp2_with (first | (go_at_call 65; (with_reducible refine (ptime_same _ _).mono ?_); rintro e w1 ⟨rfl, rfl⟩) | (go_at_call 75; (with_reducible refine (psize_same _ _).mono ?_); rintro e w1 ⟨rfl, rfl⟩))
        refine (hcome.out _ h.out hw).mono ?_
        rintro e w1 ⟨rfl, hk, ho⟩
        rw [hcs.out] at hk
        replace hk := Lib.hid hk
        replace ho := Lib.hid ho
        go_wp2_with fail
        go_ret
        exact ⟨rfl, hk.out, ho.out⟩

theorem pcopy_any (p b : Nat) (s : Pac.St) (w : World) (h : Pk w p b s) (hw : Pac.wf s) :
    Calls Try.prog 39 #[.pointer (some ⟨p, 0, none⟩)] w fun e w' => ∃ q c : Nat, w.heap.size ≤ q ∧ w.heap.size ≤ c ∧ e = .returned (.pointer (some ⟨q, 0, none⟩)) ∧ Pk w' q c s ∧ Below w.heap.size w w' := by
  have c0 := Blk.cell h.p 0
  have c1 := Blk.cell h.p 1
  have c2 := Blk.cell h.p 2
  simp at c0 c1 c2
  have hd := Lib.hid h.drew
  have hN := Lib.hid (pnone_same p b s.num s.den w h.p)
  replace h := Lib.hid h
  go_enter Try.func39, Try.ntmps39
  go_wp2_with fail
  refine Calls.mono hN.out ?_
  rintro e w1 ⟨rfl, rfl⟩
  go_wp2_with fail
  go_region_held3 (fun w' => w'.cell? ⟨p, 0, none⟩ = some (.pointer (some ⟨b, 0, none⟩)) ∧ w'.cell? ⟨p, 1, none⟩ = some (.int .i64 s.num) ∧ w'.cell? ⟨p, 2, none⟩ = some (.int .i64 s.den)) (first | exact ⟨c0, c1, c2⟩ | exact ⟨d0, d1, d2⟩ | go_keep) (first | (go_at_call 29; (with_reducible refine (bcopy_any b s.b _ hd.out.b hw.b).mono ?_); rintro e w1 ⟨rfl, hk, ho⟩; have ho := low_undrew ho; have hp := Blk.later h.out.p ho; have d0 := hp.cell 0; have d1 := hp.cell 1; have d2 := hp.cell 2; simp at d0 d1 d2; replace hp := Lib.hid hp; replace hk := Lib.hid hk; replace ho := Lib.hid ho))
  go_wp2_with fail
  go_ret
  exact ⟨_, _, ho.out.size, Nat.le_refl _, rfl, ⟨Blk.new _ _ _, hk.out.kept (laterA (Below.refl _ _) _)⟩, laterA ho.out _⟩

theorem prate_any (p b : Nat) (s : Pac.St) (w : World) (h : Pk w p b s) :
    Calls Try.prog 46 #[.pointer (some ⟨p, 0, none⟩)] w fun e w' => e = .returned (.agg #[.int .i64 s.num, .int .i64 s.den]) ∧ Below w.heap.size w w' := by
  have h' := h.kept (laterA (Below.refl _ _) (.cells #[.int .i64 0, .int .i64 0] 25))
  have hN := Lib.hid (pnone_same p b s.num s.den _ h'.p)
  have c1 := Blk.cell h'.p 1
  have c2 := Blk.cell h'.p 2
  simp at c1 c2
  clear h h'
  go_enter Try.func46, Try.ntmps46
  go_wp2_with fail
  refine Calls.mono hN.out ?_
  rintro e w1 ⟨rfl, rfl⟩
  go_wp2_with fail
  refine bodyPost_ret (v := .agg #[.int .i64 s.num, .int .i64 s.den]) (by simp [results, Try.results46, go_sem]) rfl ⟨rfl, laterA (Below.refl _ _) _⟩

theorem pwhen_any (p b : Nat) (s : Pac.St) (n : Int) (w : World) (h : Pk w p b s) (hw : Pac.wf s) :
    Calls Try.prog 44 #[.pointer (some ⟨p, 0, none⟩), .int .i64 n] w fun e w' => e = .returned (.int .i64 (Pac.when_ s n)) ∧ Below w.heap.size w w' := by
  have c0 := Blk.cell h.p 0
  have c1 := Blk.cell h.p 1
  have c2 := Blk.cell h.p 2
  simp at c0 c1 c2
  have hN := Lib.hid (pnone_same p b s.num s.den w h.p)
  have hd := Lib.hid h.drew
  replace h := Lib.hid h
  cases k2 : Pac.isSize n
  · rw [show Pac.when_ s n = -1 by simp [Pac.when_, k2]]
    go_enter Try.func44, Try.ntmps44
    go_wp2_with fail
    refine Calls.mono hN.out ?_
    rintro e w1 ⟨rfl, rfl⟩
    go_wp2_with (first | (go_at_call 75; (with_reducible refine (psize_same _ _).mono ?_); rintro e w1 ⟨rfl, rfl⟩))
    go_ret
    exact ⟨rfl, Below.refl _ _⟩
  · rw [show Pac.when_ s n = Bkt.when_ s.b n s.num s.den by simp [Pac.when_, k2]]
    go_enter Try.func44, Try.ntmps44
    go_wp2_with fail
    refine Calls.mono hN.out ?_
    rintro e w1 ⟨rfl, rfl⟩
    go_wp2_with (first | (go_at_call 75; (with_reducible refine (psize_same _ _).mono ?_); rintro e w1 ⟨rfl, rfl⟩))
    go_region_held3 (fun w' => w'.cell? ⟨p, 0, none⟩ = some (.pointer (some ⟨b, 0, none⟩)) ∧ w'.cell? ⟨p, 1, none⟩ = some (.int .i64 s.num) ∧ w'.cell? ⟨p, 2, none⟩ = some (.int .i64 s.den)) (first | exact ⟨c0, c1, c2⟩ | exact ⟨d0, d1, d2⟩) (first | (go_at_call 26; (with_reducible refine (when_any b s.b n s.num s.den _ hd.out.b hw.b).mono ?_); rintro e w1 ⟨rfl, ho⟩; have ho := low_undrew ho; have hp := Blk.later h.out.p ho; have d0 := hp.cell 0; have d1 := hp.cell 1; have d2 := hp.cell 2; simp at d0 d1 d2; replace hp := Lib.hid hp; replace ho := Lib.hid ho))
    go_wp2_with fail
    go_ret
    exact ⟨rfl, ho.out⟩

theorem pleft_any (p b : Nat) (s : Pac.St) (t : Int) (w : World) (h : Pk w p b s) (hw : Pac.wf s) :
    Calls Try.prog 48 #[.pointer (some ⟨p, 0, none⟩), .int .i64 t] w fun e w' => e = .returned (.int .i64 (Pac.left s t)) ∧ Below w.heap.size w w' := by
  have hN := Lib.hid (pnone_same p b s.num s.den w h.p)
  have hv := Lib.hid (Pac.wf_come hw t)
  replace h := Lib.hid h
  by_cases hc : Pac.comeE s t = 0
  · rw [show Pac.left s t = (Pac.come s t).b.n by simp [Pac.left, hc, Pac.come]]
    have hcome := fun q c => come_any q c s t
    rw [hc] at hcome
    clear hc
    generalize Pac.come s t = S at *
    have hcome := Lib.hid hcome
    go_enter Try.func48, Try.ntmps48
    go_wp2_with fail
    refine Calls.mono hN.out ?_
    rintro e w1 ⟨rfl, rfl⟩
    go_wp2_with fail
    refine (pcopy_any p b s _ h.out hw).mono ?_
    rintro e w1 ⟨q, c, hq, hc, rfl, hk, hb⟩
    replace hk := Lib.hid hk
    replace hb := Lib.hid hb
    go_wp2_with fail
    refine (hcome.out q c _ hk.out hw).mono ?_
    rintro e w2 ⟨rfl, hk2, ho⟩
    have hb2 := Lib.hid (one_old hb.out ho hc hb.out.size)
    have c0 := Blk.cell hk2.p 0
    simp at c0
    replace hk2 := Lib.hid hk2
    clear ho
    go_wp2_with fail
    refine (tokens_any c S.b _ hk2.out.b hv.out.b).mono ?_
    rintro e w3 ⟨rfl, rfl⟩
    go_wp2_with fail
    go_ret
    exact ⟨rfl, hb2.out⟩
  · rw [show Pac.left s t = 0 by simp [Pac.left, hc]]
    have hc' : (Pac.comeE s t == 0) = false := by simp [hc]
    have hcome := fun q c => come_any q c s t
    clear hc
    generalize Pac.comeE s t = E at *
    have hcome := Lib.hid hcome
    go_enter Try.func48, Try.ntmps48
    go_wp2_with fail
    refine Calls.mono hN.out ?_
    rintro e w1 ⟨rfl, rfl⟩
    go_wp2_with fail
    refine (pcopy_any p b s _ h.out hw).mono ?_
    rintro e w1 ⟨q, c, hq, hc, rfl, hk, hb⟩
    replace hk := Lib.hid hk
    replace hb := Lib.hid hb
    go_wp2_with fail
    refine (hcome.out q c _ hk.out hw).mono ?_
    rintro e w2 ⟨rfl, hk2, ho⟩
    have hb2 := Lib.hid (one_old hb.out ho hc hb.out.size)
    replace hk2 := Lib.hid hk2
    clear ho
    go_wp2_with fail
    go_ret
    exact ⟨rfl, hb2.out⟩

theorem asked_no (p b : Nat) (s : Pac.St) (t n : Int) (w : World) (h : Pk w p b s) (hw : Pac.wf s) :
    Calls Try.prog 69 #[.pointer (some ⟨p, 0, none⟩), .func (.func 70) #[] #[], .int .i64 t, .int .i64 n, .bool false] w fun e w' => e = .returned (.int .i64 (Pac.sendE s t n)) ∧ Below w.heap.size w w' := by
  have hN := Lib.hid (pnone_same p b s.num s.den w h.p)
  replace h := Lib.hid h
  have hs := Lib.hid (fun q c => send_in q c s t n)
  generalize Pac.sendE s t n = E at *
  by_cases hE : E = 0
  · subst hE
    go_enter Try.func69, Try.ntmps69
    go_wp2_with fail
    refine Calls.mono hN.out ?_
    rintro e w1 ⟨rfl, rfl⟩
    go_wp2_with fail
    refine (pcopy_any p b s _ h.out hw).mono ?_
    rintro e w1 ⟨q, c, hq, hc, rfl, hk, hb⟩
    have hp1 := Lib.hid (h.out.kept hb)
    replace hk := Lib.hid hk
    replace hb := Lib.hid hb
    go_wp2_with fail
    refine (hs.out q c _ hk.out hw).mono ?_
    rintro e w2 ⟨rfl, hk2, ho⟩
    have hb2 := Lib.hid (one_old hb.out ho hc hb.out.size)
    have hne2 : p ≠ c := by have := Blk.lt h.out.p; omega
    have hp2 := Lib.hid (Blk.one hp1.out.p ho hne2)
    clear ho
    replace hk2 := Lib.hid hk2
    go_wp2_with fail
    go_ret
    exact ⟨rfl, hb2.out⟩
  · have hE' : (E == 0) = false := by simp [hE]
    go_enter Try.func69, Try.ntmps69
    go_wp2_with fail
    refine Calls.mono hN.out ?_
    rintro e w1 ⟨rfl, rfl⟩
    go_wp2_with fail
    refine (pcopy_any p b s _ h.out hw).mono ?_
    rintro e w1 ⟨q, c, hq, hc, rfl, hk, hb⟩
    have hp1 := Lib.hid (h.out.kept hb)
    replace hk := Lib.hid hk
    replace hb := Lib.hid hb
    go_wp2_with fail
    refine (hs.out q c _ hk.out hw).mono ?_
    rintro e w2 ⟨rfl, hk2, ho⟩
    have hb2 := Lib.hid (one_old hb.out ho hc hb.out.size)
    have hne2 : p ≠ c := by have := Blk.lt h.out.p; omega
    have hp2 := Lib.hid (Blk.one hp1.out.p ho hne2)
    clear ho
    replace hk2 := Lib.hid hk2
    go_wp2_with fail
    go_ret
    exact ⟨rfl, hb2.out⟩

theorem asked_yes (p b : Nat) (s : Pac.St) (t n : Int) (w : World) (h : Pk w p b s) (hw : Pac.wf s) :
    Calls Try.prog 69 #[.pointer (some ⟨p, 0, none⟩), .func (.func 70) #[] #[], .int .i64 t, .int .i64 n, .bool true] w fun e w' => e = .returned (.int .i64 (Pac.sendE s t n)) ∧ ∃ c : Nat, (c = b ∨ w.heap.size ≤ c) ∧ Pk w' p c (Pac.send s t n) ∧ w.grownBy w' (some p) := by
  have hN := Lib.hid (pnone_same p b s.num s.den w h.p)
  replace h := Lib.hid h
  have hs := fun q c => send_in q c s t n
  have hne := h.out.ne
  by_cases hE : Pac.sendE s t n = 0
  · have e1 := Pac.sent_send hE
    rw [e1, hE] at hs
    rw [hE]
    clear e1 hE
    have hx : (Pac.send s t n).num = s.num ∧ (Pac.send s t n).den = s.den := by unfold Pac.send; split <;> exact ⟨rfl, rfl⟩
    generalize Pac.send s t n = S at *
    obtain ⟨hx1, hx2⟩ := hx
    have hs := Lib.hid hs
    replace hx1 := Lib.hid hx1
    replace hx2 := Lib.hid hx2
    go_enter Try.func69, Try.ntmps69
    go_wp2_with fail
    refine Calls.mono hN.out ?_
    rintro e w1 ⟨rfl, rfl⟩
    go_wp2_with fail
    refine (pcopy_any p b s _ h.out hw).mono ?_
    rintro e w1 ⟨q, c, hq, hc, rfl, hk, hb⟩
    have hp1 := Lib.hid (h.out.kept hb)
    replace hk := Lib.hid hk
    replace hb := Lib.hid hb
    go_wp2_with fail
    refine (hs.out q c _ hk.out hw).mono ?_
    rintro e w2 ⟨rfl, hk2, ho⟩
    have hb2 := Lib.hid (one_old hb.out ho hc hb.out.size)
    have hne2 : p ≠ c := by have := Blk.lt h.out.p; omega
    have hp2 := Lib.hid (Blk.one hp1.out.p ho hne2)
    clear ho
    have c0 := Blk.cell hk2.p 0
    have c1 := Blk.cell hk2.p 1
    have c2 := Blk.cell hk2.p 2
    simp at c0 c1 c2
    have z0 := Blk.frozen hp2.out 0
    have z1 := Blk.frozen hp2.out 1
    have z2 := Blk.frozen hp2.out 2
    have d0 := Blk.cell hp2.out 0
    have d1 := Blk.cell hp2.out 1
    have d2 := Blk.cell hp2.out 2
    simp at d0 d1 d2
    replace hk2 := Lib.hid hk2
    go_wp2_with fail
    go_ret
    refine ⟨rfl, c, .inr hc, ⟨((Blk.set_ hp2.out 0 _).set_ 1 _).set_ 2 _, ?_⟩, one_set (one_set (one_set (one_of_low hb2.out) _ _) _ _) _ _⟩
    exact ((Blk.far hk2.out.b (p := ⟨p, 0, none⟩) (Ne.symm hne2) _).far (p := ⟨p, 1, none⟩) (Ne.symm hne2) _).far (p := ⟨p, 2, none⟩) (Ne.symm hne2) _
  · have e1 : Pac.send s t n = s := by unfold Pac.send; rw [if_neg hE]
    rw [e1]
    have hE' : (Pac.sendE s t n == 0) = false := by simp [hE]
    clear e1 hE
    generalize Pac.sendE s t n = E at *
    generalize Pac.sent s t n = S at *
    have hs := Lib.hid hs
    go_enter Try.func69, Try.ntmps69
    go_wp2_with fail
    refine Calls.mono hN.out ?_
    rintro e w1 ⟨rfl, rfl⟩
    go_wp2_with fail
    refine (pcopy_any p b s _ h.out hw).mono ?_
    rintro e w1 ⟨q, c, hq, hc, rfl, hk, hb⟩
    have hp1 := Lib.hid (h.out.kept hb)
    replace hk := Lib.hid hk
    replace hb := Lib.hid hb
    go_wp2_with fail
    refine (hs.out q c _ hk.out hw).mono ?_
    rintro e w2 ⟨rfl, hk2, ho⟩
    have hb2 := Lib.hid (one_old hb.out ho hc hb.out.size)
    have hne2 : p ≠ c := by have := Blk.lt h.out.p; omega
    have hp2 := Lib.hid (Blk.one hp1.out.p ho hne2)
    have hne3 : b ≠ c := by have := Blk.lt h.out.b; omega
    have ho' := ho
    clear ho
    have hbb := Lib.hid (Blk.one (hp1.out.b) ho' hne3)
    replace hk2 := Lib.hid hk2
    go_wp2_with fail
    go_ret
    exact ⟨rfl, b, .inl rfl, ⟨hp2.out, hbb.out⟩, one_of_low hb2.out⟩

/-- What a sending leaves: another bucket, or the same one. -/
def Sends (w : World) (p b : Nat) (S : Pac.St) (E : Int) (e : Ending) (w' : World) : Prop := e = .returned (.int .i64 E) ∧ ∃ c : Nat, (c = b ∨ w.heap.size ≤ c) ∧ Pk w' p c S ∧ w.grownBy w' (some p)

theorem psend_any (p b : Nat) (s : Pac.St) (t n : Int) (w : World) (h : Pk w p b s) (hw : Pac.wf s) :
    Calls Try.prog 37 #[.pointer (some ⟨p, 0, none⟩), .int .i64 t, .int .i64 n] w (Sends w p b (Pac.send s t n) (Pac.sendE s t n)) := by
  have hA := Lib.hid (asked_yes p b s t n w h hw)
  clear h
  generalize Pac.sendE s t n = E at *
  generalize Pac.send s t n = S at *
  go_enter Try.func37, Try.ntmps37
  go_wp2_with fail
  refine Calls.mono hA.out ?_
  rintro e w1 ⟨rfl, c, hc, hk, ho⟩
  have H : Hid (Sends w p b S E (.returned (.int .i64 E)) w1) := ⟨rfl, c, hc, hk, ho⟩
  clear hc hk ho
  go_wp2_with fail
  go_ret
  exact H.out

theorem pcan_any (p b : Nat) (s : Pac.St) (t n : Int) (w : World) (h : Pk w p b s) (hw : Pac.wf s) :
    Calls Try.prog 45 #[.pointer (some ⟨p, 0, none⟩), .int .i64 t, .int .i64 n] w fun e w' => e = .returned (.bool (Pac.sendE s t n == 0)) ∧ Below w.heap.size w w' := by
  have hA := Lib.hid (asked_no p b s t n w h hw)
  clear h
  generalize Pac.sendE s t n = E at *
  go_enter Try.func45, Try.ntmps45
  go_wp2_with fail
  refine Calls.mono hA.out ?_
  rintro e w1 ⟨rfl, hb⟩
  replace hb := Lib.hid hb
  go_wp2_with fail
  go_ret
  exact ⟨rfl, hb.out⟩

theorem pset_any (p b : Nat) (s : Pac.St) (t cwnd smooth : Int) (w : World) (h : Pk w p b s) (hw : Pac.wf s) :
    Calls Try.prog 35 #[.pointer (some ⟨p, 0, none⟩), .int .i64 t, .int .i64 cwnd, .int .i64 smooth] w fun e w' => e = .returned (.int .i64 (Pac.setE s t cwnd smooth)) ∧ Pk w' p b (Pac.set s t cwnd smooth) ∧ Only (fun k => k = p ∨ k = b) w w' := by
  have hN := Lib.hid (pnone_same p b s.num s.den w h.p)
  have hne := h.ne
  replace h := Lib.hid h
  have hno : Pac.setOk t cwnd smooth = false → Pac.setE s t cwnd smooth = 2 ∧ Pac.set s t cwnd smooth = s := fun hf => by
    have : Pac.setE s t cwnd smooth = 2 := by simp [Pac.setE, hf]
    exact ⟨this, by unfold Pac.set; rw [if_neg (by omega)]⟩
  cases k1 : Sat.isN t
  · obtain ⟨e1, e2⟩ := hno (by simp [Pac.setOk, k1])
    rw [e1, e2]
    clear e1 e2 hno
    go_enter Try.func35, Try.ntmps35
    go_wp2_with fail
    refine Calls.mono hN.out ?_
    rintro e w1 ⟨rfl, rfl⟩
    go_wp2_with (first | (go_at_call 65; (with_reducible refine (ptime_same _ _).mono ?_); rintro e w1 ⟨rfl, rfl⟩))
    go_ret
    exact ⟨rfl, h.out, Only.refl _ _⟩
  · by_cases h1 : cwnd < 1
    · obtain ⟨e1, e2⟩ := hno (by simp [Pac.setOk]; omega)
      rw [e1, e2]
      clear e1 e2 hno
      go_enter Try.func35, Try.ntmps35
      go_wp2_with fail
      refine Calls.mono hN.out ?_
      rintro e w1 ⟨rfl, rfl⟩
      go_wp2_with (first | (go_at_call 65; (with_reducible refine (ptime_same _ _).mono ?_); rintro e w1 ⟨rfl, rfl⟩))
      go_ret
      exact ⟨rfl, h.out, Only.refl _ _⟩
    · by_cases h2 : 1099511627776 < cwnd
      · obtain ⟨e1, e2⟩ := hno (by simp [Pac.setOk]; omega)
        rw [e1, e2]
        clear e1 e2 hno
        go_enter Try.func35, Try.ntmps35
        go_wp2_with fail
        refine Calls.mono hN.out ?_
        rintro e w1 ⟨rfl, rfl⟩
        go_wp2_with (first | (go_at_call 65; (with_reducible refine (ptime_same _ _).mono ?_); rintro e w1 ⟨rfl, rfl⟩))
        go_ret
        exact ⟨rfl, h.out, Only.refl _ _⟩
      · cases k2 : Sat.isN smooth
        · obtain ⟨e1, e2⟩ := hno (by simp [Pac.setOk, k2])
          rw [e1, e2]
          clear e1 e2 hno
          go_enter Try.func35, Try.ntmps35
          go_wp2_with fail
          refine Calls.mono hN.out ?_
          rintro e w1 ⟨rfl, rfl⟩
          go_wp2_with (first | (go_at_call 65; (with_reducible refine (ptime_same _ _).mono ?_); rintro e w1 ⟨rfl, rfl⟩))
          go_ret
          exact ⟨rfl, h.out, Only.refl _ _⟩
        · clear hno
          have ho : Pac.setOk t cwnd smooth = true := by rw [Pac.setOk_iff]; rw [Sat.isN_iff] at k1 k2; omega
          have hE : Pac.setE s t cwnd smooth = Pac.comeE s t := by unfold Pac.setE; rw [if_pos ho]
          have hcome := come_any p b s t
          have hS : Pac.set s t cwnd smooth = if Pac.comeE s t = 0 then ⟨(Pac.come s t).b, 5 * cwnd, Pac.den4 smooth⟩ else s := by
            unfold Pac.set; rw [hE]; rfl
          have hcs := fun h => Pac.come_no (s := s) (t := t) h
          rw [hE, hS]
          have hsm : 0 ≤ smooth ∧ smooth ≤ 9007199254740991 := (Sat.isN_iff _).1 k2
          obtain ⟨s0, s1⟩ := hsm
          have hden : max 1 (min (4 * smooth) 9007199254740991) = Pac.den4 smooth := rfl
          clear hE hS ho
          generalize Pac.come s t = S at *
          generalize Pac.comeE s t = E at *
          generalize Pac.den4 smooth = dd at *
          have hcome := Lib.hid hcome
          by_cases hc : E = 0
          · subst hc
            rw [if_pos rfl]
            clear hcs
            go_enter Try.func35, Try.ntmps35
            go_wp2_with fail
            refine Calls.mono hN.out ?_
            rintro e w1 ⟨rfl, rfl⟩
            go_wp2_with (first | (go_at_call 65; (with_reducible refine (ptime_same _ _).mono ?_); rintro e w1 ⟨rfl, rfl⟩))
            refine (hcome.out _ h.out hw).mono ?_
            rintro e w1 ⟨rfl, hk, ho⟩
            have z1 := Blk.frozen hk.p 1
            have z2 := Blk.frozen hk.p 2
            have d1 := Blk.cell hk.p 1
            have d2 := Blk.cell hk.p 2
            simp at d1 d2
            replace hk := Lib.hid hk
            replace ho := Lib.hid ho
            go_wp2_with fail
            go_ret
            exact ⟨rfl, ⟨(Blk.set_ hk.out.p 1 _).set_ 2 _, (Blk.far hk.out.b (p := ⟨p, 1, none⟩) (Ne.symm hne) _).far (p := ⟨p, 2, none⟩) (Ne.symm hne) _⟩, ((Only.of_grown ho.out (.inr rfl)).set (.inl rfl) _).set (.inl rfl) _⟩
          · rw [if_neg hc]
            have hcs := hcs hc
            subst hcs
            have hc' : (E == 0) = false := by simp [hc]
            go_enter Try.func35, Try.ntmps35
            go_wp2_with fail
            refine Calls.mono hN.out ?_
            rintro e w1 ⟨rfl, rfl⟩
            go_wp2_with (first | (go_at_call 65; (with_reducible refine (ptime_same _ _).mono ?_); rintro e w1 ⟨rfl, rfl⟩))
            refine (hcome.out _ h.out hw).mono ?_
            rintro e w1 ⟨rfl, hk, ho⟩
            replace hk := Lib.hid hk
            replace ho := Lib.hid ho
            go_wp2_with fail
            go_ret
            exact ⟨rfl, hk.out, Only.of_grown ho.out (.inr rfl)⟩
end Go.Proofs.Ytniiemmgcjkphaa
