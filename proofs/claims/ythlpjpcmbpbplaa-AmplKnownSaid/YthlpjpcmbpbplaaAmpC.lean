/-
  Layer 15: what the chapter's limit comes to ('works'), and two limits that stand alike ('same').
-/
import Derived.Test.YthlpjpcmbpbplaaAmpB
import Derived.Test.YthlpjpcmbpbplaaBring
namespace Go.Proofs.Ythlpjpcmbpbplaa
open Go.RowKit Go.Sort

theorem got_to (b : Nat) (g s n G E : Int) (v : Bool) (w : World) (hE : Amp.gotE n = E) (hG : Amp.gotG g n = G) (h : Lim w b g s v) :
    Calls Try.prog 12 #[.pointer (some ⟨b, 0, none⟩), .int .i64 n] w fun e w' => e = .returned (.int .i64 E) ∧ Lim w' b G s v ∧ w.grownBy w' (some b) := by
  subst hE hG; exact got_any b g s n v w h
theorem sent_to (b : Nat) (g s n S E : Int) (v : Bool) (w : World) (hE : Amp.sentE v g s n = E) (hS : Amp.sentS v g s n = S) (h : Lim w b g s v) :
    Calls Try.prog 13 #[.pointer (some ⟨b, 0, none⟩), .int .i64 n] w fun e w' => e = .returned (.int .i64 E) ∧ Lim w' b g S v ∧ w.grownBy w' (some b) := by
  subst hE hS; exact sent_any b g s n v w h
theorem left_to (b : Nat) (g s L : Int) (v : Bool) (w : World) (hL : Amp.left v g s = L) (h : Lim w b g s v) :
    Calls Try.prog 15 #[.pointer (some ⟨b, 0, none⟩)] w fun e w' => e = .returned (.int .i64 L) ∧ Below w.heap.size w w' := by
  subst hL; exact left_any b g s v w h

set_option maxRecDepth 100000 in
theorem works_any (w : World) :
    Calls Try.prog 9 #[] w fun e w' => e = .returned (.bool true) ∧ Below w.heap.size w w' := by
  go_enter Try.func9, Try.ntmps9
  go_wp2_with fail
  refine (new_any false _).mono ?_
  rintro e wa ⟨rfl, la, ba⟩
  go_wp2_with fail
  refine (sent_to _ 0 0 1 0 212 false _ (by decide) (by decide) la).mono ?_
  rintro e wb ⟨rfl, lb, ob⟩
  go_wp2_with fail
  refine (got_to _ 0 0 1200 1200 0 false _ (by decide) (by decide) lb).mono ?_
  rintro e wc ⟨rfl, lc, oc⟩
  go_wp2_with fail
  refine (left_to _ 1200 0 3600 false _ (by decide) lc).mono ?_
  rintro e wd ⟨rfl, bd⟩
  go_wp2_with fail
  refine (sent_to _ 1200 0 3600 3600 0 false _ (by decide) (by decide) (lc.later bd)).mono ?_
  rintro e we ⟨rfl, le, oe⟩
  go_wp2_with fail
  refine (sent_to _ 1200 3600 1 3600 212 false _ (by decide) (by decide) le).mono ?_
  rintro e wf ⟨rfl, lf, of⟩
  go_wp2_with fail
  refine (got_to _ 1200 3600 65536 1200 2 false _ (by decide) (by decide) lf).mono ?_
  rintro e wg ⟨rfl, lg, og⟩
  go_wp2_with fail
  refine (validate_any _ 1200 3600 false _ lg).mono ?_
  rintro e wh ⟨rfl, lh, oh⟩
  go_wp2_with fail
  refine (left_to _ 1200 3600 9007199254740991 true _ (by decide) lh).mono ?_
  rintro e wi ⟨rfl, bi⟩
  go_wp2_with fail
  refine (sent_to _ 1200 3600 65535 69135 0 true _ (by decide) (by decide) (lh.later bi)).mono ?_
  rintro e wj ⟨rfl, lj, oj⟩
  go_wp2_with fail
  refine (totals_any _ 1200 69135 true _ lj).mono ?_
  rintro e wk ⟨rfl, bk⟩
  go_wp2_with fail
  go_ret
  have b1 := ba.trans (one_below ob (Nat.le_refl _) ba.size)
  have b2 := b1.trans (one_below oc (Nat.le_refl _) b1.size)
  have b3 := later b2 bd
  have b4 := b3.trans (one_below oe (Nat.le_refl _) b3.size)
  have b5 := b4.trans (one_below of (Nat.le_refl _) b4.size)
  have b6 := b5.trans (one_below og (Nat.le_refl _) b5.size)
  have b7 := b6.trans (one_below oh (Nat.le_refl _) b6.size)
  have b8 := later b7 bi
  have b9 := b8.trans (one_below oj (Nat.le_refl _) b8.size)
  exact ⟨rfl, later b9 bk⟩

theorem lsize_same (n : Int) (w : World) :
    Calls Try.prog 16 #[.int .i64 n] w fun e w' => e = .returned (.int .i64 (n % 65536)) ∧ w = w' := by
  go_enter Try.func16, Try.ntmps16
  go_wp2_with (go_at_call 11; (with_reducible refine (bring_same _ _ (by omega) (by omega) _).mono ?_); rintro e w1 ⟨rfl, rfl⟩)
  go_ret
  exact ⟨rfl, rfl⟩

set_option maxRecDepth 100000 in
theorem same_any (b c : Nat) (g s n : Int) (v : Bool) (w : World) (h : Lim w b g s v) (k : RLim w c g s v) :
    Calls Try.prog 25 #[.pointer (some ⟨b, 0, none⟩), .pointer (some ⟨c, 0, none⟩), .int .i64 n] w fun e w' => e = .returned (.bool true) ∧ Below w.heap.size w w' := by
  have H := Lib.hid h
  have K := Lib.hid k
  clear h k
  go_enter Try.func25, Try.ntmps25
  go_wp2_with fail
  refine (totals_any _ _ _ _ _ H.out).mono ?_
  rintro e wa ⟨rfl, ba⟩
  have K1 := K.out.later ba
  have H1 := H.out.later ba
  have d0 := fun d os => (K1.grow d os).cell 0
  have d1 := fun d os => (K1.grow d os).cell 1
  have d2 := fun d os => (K1.grow d os).cell 2
  simp at d0 d1 d2
  have K1 := Lib.hid K1
  have H1 := Lib.hid H1
  go_wp2_with fail
  refine wp_region_quiet_below (by kernel_rfl) (by kernel_rfl) ?_
  repeat (go_big_quiet_step ((first | (go_at_call 18; exact Calls.regrown_of (valid_any b g s v _ (H1.out.grow _ _))) | (go_at_call 15; exact Calls.regrown_of (left_any b g s v _ (H1.out.grow _ _))) | (go_at_call 17; exact Calls.regrown_of (can_any b g s n v _ (H1.out.grow _ _))) | (go_at_call 33; exact Calls.regrown_of (rleft_any c g s v _ (K1.out.grow _ _))) | (go_at_call 34; exact Calls.regrown_of (rcan_any c g s n v _ (K1.out.grow _ _))))))
  refine wpQuiet_nil ?_
  intro wq hw'
  obtain ⟨⟨dq, osq⟩, hw''⟩ := hw'
  have hbq := regrown_below hw''
  clear hw'' dq osq
  clear d0 d1 d2
  go_wp2_with fail
  go_ret
  exact ⟨rfl, later ba hbq⟩

end Go.Proofs.Ythlpjpcmbpbplaa
