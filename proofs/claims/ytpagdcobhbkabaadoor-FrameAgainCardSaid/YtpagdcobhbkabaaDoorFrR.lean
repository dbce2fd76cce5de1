/-
  Layer 5: the chapter's examples: one, fails.
-/
import Derived.Test.YtpagdcobhbkabaaDoorFrQ
namespace Go.Proofs.YtpagdcobhbkabaaDoor
open Go.RowKit Go.Sort Go.Shelf Go.Deep Go.WideShapes

theorem results_c1 {fn : Func} {p : Tmp} (h : fn.results = #[.cell p 25]) (tmps : Array Value) (w : World) {g : Nat} {cs : Array Value} {t : TypeId} (hp : tmps.getD p undef = .pointer (some ⟨g, 0, none⟩)) (hg : Blk w g t cs) (hs : cs.size = 6) :
    (results fn tmps).run Tryd.prog w = .ok (.agg cs) w := by
  have hp' : tmps[p]?.getD undef = .pointer (some ⟨g, 0, none⟩) := by simpa using hp
  simp [results, h, hp', asAddr, load_ack hg hs]
theorem one_any (A : Option Addr) (n c : Nat) (rs : List (Int × Int)) (w : World) : Calls Tryd.prog 45 #[.slice A n c] w fun e w' => e = .returned (av ⟨0, rs, false, 0, 0, 0⟩ A n c) ∧ w' = w.alloc (.cells #[.int .i64 0, .slice A n c, .bool false, .int .i64 0, .int .i64 0, .int .i64 0] 25) := by
  have hbx := Blk.new w 25 #[.int .i64 0, .slice A n c, .bool false, .int .i64 0, .int .i64 0, .int .i64 0]
  unfold av
  go_enter Tryd.func45, Tryd.ntmps45
  go_wp2_with fail
  refine bodyPost_ret (results_c1 rfl _ _ rfl hbx rfl) rfl ?_
  exact ⟨rfl, rfl⟩
set_option maxRecDepth 100000 in
set_option maxHeartbeats 2000000 in
theorem fails_any (err : Int) (A : Option Addr) (n c q : Nat) (l : List Int) (w : World) (h0 : 0 < w.heap.size) (h : Sl w q A n c l) (hs : n ≤ 10000) (hb : Oct.Bys l) :
    Calls Tryd.prog 25 #[.int .i64 err, .slice A n c] w fun e w' => e = .returned (.bool (decide ((Frm.nxt l).2.1 = 0) && decide ((Frm.nxt l).2.2 = err))) ∧ Below w.heap.size w w' := by
  have hN := next_any A n c q l w h0 h hs hb
  obtain ⟨a, k, f, hx⟩ : ∃ a k f, Frm.nxt l = (a, k, f) := ⟨_, _, _, rfl⟩
  rw [hx] at hN ⊢
  simp only
  clear hx h
  go_enter Tryd.func25, Tryd.ntmps25
  go_wp2_with fail
  with_reducible refine hN.mono ?_
  rintro e w1 ⟨A1, n1, c1, rfl, _, _, hb1⟩
  clear hN
  unfold av
  have hb2 := laterA hb1 (.cells #[.int .i64 a.d, .slice A1 n1 c1, .bool a.mkd, .int .i64 a.e0, .int .i64 a.e1, .int .i64 a.e2] 25)
  replace hb1 := Lib.hid hb1
  replace hb2 := Lib.hid hb2
  by_cases hk : k = 0
  · by_cases hf : f = err
    · go_wp2_with fail
      go_ret
      exact ⟨by rw [decide_eq_true hk, decide_eq_true hf]; rfl, hb2.out⟩
    · go_wp2_with fail
      go_ret
      have hfe : (f == err) = false := by simp [hf]
      exact ⟨by rw [decide_eq_true hk, decide_eq_false hf, Bool.true_and, ← hfe]; rfl, hb2.out⟩
  · go_wp2_with fail
    go_ret
    exact ⟨by rw [decide_eq_false hk]; rfl, hb2.out⟩
end Go.Proofs.YtpagdcobhbkabaaDoor
