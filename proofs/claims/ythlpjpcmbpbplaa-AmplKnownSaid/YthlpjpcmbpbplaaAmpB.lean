/-
  Package ampl: the other methods; the document's limit (sounderref15).
-/
import Derived.Test.YthlpjpcmbpbplaaAmp
namespace Go.Proofs.Ythlpjpcmbpbplaa
open Go.RowKit Go.Sort

theorem all_enters (args : Array Value) (w : World) : (callFunc 31 args).run Try.prog w = .ok (.enter 31 args) w := by kernel_rfl
theorem thrice_enters (args : Array Value) (w : World) : (callFunc 27 args).run Try.prog w = .ok (.enter 27 args) w := by kernel_rfl
theorem fv_enters (v : Bool) (args : Array Value) (w : World) : (callFunc (fv v) args).run Try.prog w = .ok (.enter (fv v) args) w := by
  cases v
  · exact thrice_enters args w
  · exact all_enters args w

theorem sent_any (b : Nat) (g s n : Int) (v : Bool) (w : World) (h : Lim w b g s v) :
    Calls Try.prog 13 #[.pointer (some ⟨b, 0, none⟩), .int .i64 n] w fun e w' => e = .returned (.int .i64 (Amp.sentE v g s n)) ∧ Lim w' b g (Amp.sentS v g s n) v ∧ w.grownBy w' (some b) := by
  have c1 := h.cell 1
  have c3 := h.cell 3
  have z1 := h.frozen 1
  simp at c1 c3
  have H := Lib.hid h
  clear h
  have hf := fv_enters v
  cases hk : Amp.ok n
  · have e1 : Amp.sentE v g s n = 2 := by unfold Amp.sentE; rw [hk]; rfl
    have e2 : Amp.sentS v g s n = s := by unfold Amp.sentS Amp.can; rw [hk]; rfl
    rw [e1, e2]
    clear e1 e2
    go_enter Try.func13, Try.ntmps13
    go_wp2_with (first | (go_at_call 28; (with_reducible refine (none_same _ _ _ c3).mono ?_); rintro e w1 ⟨rfl, rfl⟩) | (go_at_call 29; (with_reducible refine (asize_same _ _).mono ?_); rintro e w1 ⟨rfl, rfl⟩))
    go_ret
    exact ⟨rfl, H.out, one_refl _ _⟩
  · by_cases hn : n ≤ Amp.left v g s
    · have e1 : Amp.sentE v g s n = 0 := by unfold Amp.sentE; rw [hk, if_pos rfl, if_pos hn]
      have e2 : Amp.sentS v g s n = Sat.add s n := by unfold Amp.sentS Amp.can; rw [hk]; simp [hn]
      rw [e1, e2]
      clear e1 e2
      have HL := Lib.hid (left_fn b g s v _ H.out)
      have hn' : ¬ Amp.left v g s < n := by omega
      generalize Amp.left v g s = L at *
      go_enter Try.func13, Try.ntmps13
      go_wp2_with (first | (go_at_call 28; (with_reducible refine (none_same _ _ _ c3).mono ?_); rintro e w1 ⟨rfl, rfl⟩) | (go_at_call 29; (with_reducible refine (asize_same _ _).mono ?_); rintro e w1 ⟨rfl, rfl⟩) | (go_at_call 30; (with_reducible refine (add_same _ _ _).mono ?_); rintro e w1 ⟨rfl, rfl⟩) | ((with_reducible refine HL.out.mono ?_); rintro e w1 ⟨rfl, hb⟩; have k1 := (H.out.later hb).cell 1; have y1 := (H.out.later hb).frozen 1; simp at k1))
      go_ret
      exact ⟨rfl, (H.out.later hb).set_ 1 _, one_set (one_later (one_refl _ _) hb) _ _⟩
    · have e1 : Amp.sentE v g s n = 212 := by unfold Amp.sentE; rw [hk, if_pos rfl, if_neg hn]
      have e2 : Amp.sentS v g s n = s := by unfold Amp.sentS Amp.can; rw [hk]; simp [hn]
      rw [e1, e2]
      clear e1 e2
      have HL := Lib.hid (left_fn b g s v _ H.out)
      generalize Amp.left v g s = L at *
      go_enter Try.func13, Try.ntmps13
      go_wp2_with (first | (go_at_call 28; (with_reducible refine (none_same _ _ _ c3).mono ?_); rintro e w1 ⟨rfl, rfl⟩) | (go_at_call 29; (with_reducible refine (asize_same _ _).mono ?_); rintro e w1 ⟨rfl, rfl⟩) | ((with_reducible refine HL.out.mono ?_); rintro e w1 ⟨rfl, hb⟩))
      go_ret
      exact ⟨rfl, H.out.later hb, one_later (one_refl _ _) hb⟩

theorem left_any (b : Nat) (g s : Int) (v : Bool) (w : World) (h : Lim w b g s v) :
    Calls Try.prog 15 #[.pointer (some ⟨b, 0, none⟩)] w fun e w' => e = .returned (.int .i64 (Amp.left v g s)) ∧ Below w.heap.size w w' := by
  have c3 := h.cell 3
  simp at c3
  have HL := Lib.hid (left_fn b g s v _ h)
  clear h
  have hf := fv_enters v
  go_enter Try.func15, Try.ntmps15
  go_wp2_with (first | (go_at_call 28; (with_reducible refine (none_same _ _ _ c3).mono ?_); rintro e w1 ⟨rfl, rfl⟩) | ((with_reducible refine HL.out.mono ?_); rintro e w1 ⟨rfl, hb⟩))
  go_ret
  exact ⟨rfl, hb⟩

theorem can_any (b : Nat) (g s n : Int) (v : Bool) (w : World) (h : Lim w b g s v) :
    Calls Try.prog 17 #[.pointer (some ⟨b, 0, none⟩), .int .i64 n] w fun e w' => e = .returned (.bool (Amp.can v g s n)) ∧ Below w.heap.size w w' := by
  have c3 := h.cell 3
  simp at c3
  have HL := Lib.hid (left_fn b g s v _ h)
  clear h
  have hf := fv_enters v
  cases hk : Amp.ok n
  · have e1 : Amp.can v g s n = false := by unfold Amp.can; rw [hk]; rfl
    rw [e1]
    clear e1 HL
    go_enter Try.func17, Try.ntmps17
    go_wp2_with (first | (go_at_call 28; (with_reducible refine (none_same _ _ _ c3).mono ?_); rintro e w1 ⟨rfl, rfl⟩) | (go_at_call 29; (with_reducible refine (asize_same _ _).mono ?_); rintro e w1 ⟨rfl, rfl⟩))
    go_ret
    exact ⟨rfl, Below.refl _ _⟩
  · have e1 : Amp.can v g s n = decide (n ≤ Amp.left v g s) := by unfold Amp.can; rw [hk]; rfl
    rw [e1]
    clear e1
    generalize Amp.left v g s = L at *
    go_enter Try.func17, Try.ntmps17
    go_wp2_with (first | (go_at_call 28; (with_reducible refine (none_same _ _ _ c3).mono ?_); rintro e w1 ⟨rfl, rfl⟩) | (go_at_call 29; (with_reducible refine (asize_same _ _).mono ?_); rintro e w1 ⟨rfl, rfl⟩) | ((with_reducible refine HL.out.mono ?_); rintro e w1 ⟨rfl, hb⟩))
    go_ret
    exact ⟨rfl, hb⟩

theorem totals_any (b : Nat) (g s : Int) (v : Bool) (w : World) (h : Lim w b g s v)  :
    Calls Try.prog 14 #[.pointer (some ⟨b, 0, none⟩)] w fun e w' => e = .returned (.tuple #[.int .i64 g, .int .i64 s]) ∧ Below w.heap.size w w' := by
  have c0 := h.cell 0
  have c1 := h.cell 1
  have c3 := h.cell 3
  simp at c0 c1 c3
  clear h
  go_enter Try.func14, Try.ntmps14
  go_wp2_with (go_at_call 28; (with_reducible refine (none_same _ _ _ c3).mono ?_); rintro e w1 ⟨rfl, rfl⟩)
  go_quiet (fail)
  go_wp2
  go_ret2
  exact ⟨rfl, (by repeat (first | with_reducible assumption | with_reducible exact Below.refl _ _ | with_reducible exact later ‹_› ‹_› | refine later ?_ (by with_reducible assumption) | refine laterA ?_ _ | refine laterDN ?_ _ | refine laterD ?_ | refine laterR ?_ _ _))⟩

theorem valid_any (b : Nat) (g s : Int) (v : Bool) (w : World) (h : Lim w b g s v)  :
    Calls Try.prog 18 #[.pointer (some ⟨b, 0, none⟩)] w fun e w' => e = .returned (.bool v) ∧ Below w.heap.size w w' := by
  have c2 := h.cell 2
  have c3 := h.cell 3
  simp at c2 c3
  clear h
  go_enter Try.func18, Try.ntmps18
  go_wp2_with (go_at_call 28; (with_reducible refine (none_same _ _ _ c3).mono ?_); rintro e w1 ⟨rfl, rfl⟩)
  go_ret
  exact ⟨rfl, (by repeat (first | with_reducible assumption | with_reducible exact Below.refl _ _ | with_reducible exact later ‹_› ‹_› | refine later ?_ (by with_reducible assumption) | refine laterA ?_ _ | refine laterDN ?_ _ | refine laterD ?_ | refine laterR ?_ _ _))⟩

theorem copy_any (b : Nat) (g s : Int) (v : Bool) (w : World) (h : Lim w b g s v)  :
    Calls Try.prog 24 #[.pointer (some ⟨b, 0, none⟩)] w fun e w' => e = .returned (.pointer (some ⟨w.heap.size, 0, none⟩)) ∧ Lim w' w.heap.size g s v ∧ Below w.heap.size w w' := by
  have c0 := h.cell 0
  have c1 := h.cell 1
  have c2 := h.cell 2
  have c3 := h.cell 3
  simp at c0 c1 c2 c3
  clear h
  go_enter Try.func24, Try.ntmps24
  go_wp2_with (go_at_call 28; (with_reducible refine (none_same _ _ _ c3).mono ?_); rintro e w1 ⟨rfl, rfl⟩)
  go_ret
  exact ⟨rfl, Blk.new _ _ _, (by repeat (first | with_reducible assumption | with_reducible exact Below.refl _ _ | with_reducible exact later ‹_› ‹_› | refine later ?_ (by with_reducible assumption) | refine laterA ?_ _ | refine laterDN ?_ _ | refine laterD ?_ | refine laterR ?_ _ _))⟩

/-! ### The document's limit -/
theorem rnew_any (v : Bool) (w : World) :
    Calls Try.prog 20 #[.bool v] w fun e w' => e = .returned (.pointer (some ⟨w.heap.size, 0, none⟩)) ∧ RLim w' w.heap.size 0 0 v ∧ Below w.heap.size w w' := by
  go_enter Try.func20, Try.ntmps20
  go_wp2
  go_ret
  exact ⟨rfl, Blk.new _ _ _, (by repeat (first | with_reducible assumption | with_reducible exact Below.refl _ _ | with_reducible exact later ‹_› ‹_› | refine later ?_ (by with_reducible assumption) | refine laterA ?_ _ | refine laterDN ?_ _ | refine laterD ?_ | refine laterR ?_ _ _))⟩

theorem rgot_any (b : Nat) (g s n : Int) (v : Bool) (w : World) (h : RLim w b g s v) :
    Calls Try.prog 21 #[.pointer (some ⟨b, 0, none⟩), .int .i64 n] w fun e w' => e = .returned (.int .i64 (Amp.gotE n)) ∧ RLim w' b (Amp.gotG g n) s v ∧ w.grownBy w' (some b) := by
  have c0 := h.cell 0
  have z0 := h.frozen 0
  simp at c0
  have H := Lib.hid h
  clear h
  by_cases h0 : 0 ≤ n
  · by_cases h1 : n ≤ 65535
    · have e1 : Amp.gotE n = 0 := by unfold Amp.gotE Amp.ok; simp [h0, h1]
      have e2 : Amp.gotG g n = Sat.add g n := by unfold Amp.gotG Amp.ok; simp [h0, h1]
      rw [e1, e2]
      clear e1 e2
      go_enter Try.func21, Try.ntmps21
      go_wp2_with (first | (go_at_call 32; (with_reducible refine (radd_same _ _ _).mono ?_); rintro e w1 ⟨rfl, rfl⟩))
      go_ret
      exact ⟨rfl, H.out.set_ 0 _, one_set (one_refl _ _) _ _⟩
    · have e1 : Amp.gotE n = 2 := by unfold Amp.gotE Amp.ok; simp [h1]
      have e2 : Amp.gotG g n = g := by unfold Amp.gotG Amp.ok; simp [h1]
      rw [e1, e2]
      clear e1 e2
      go_enter Try.func21, Try.ntmps21
      go_wp2
      go_ret
      exact ⟨rfl, H.out, one_refl _ _⟩
  · have e1 : Amp.gotE n = 2 := by unfold Amp.gotE Amp.ok; simp [h0]
    have e2 : Amp.gotG g n = g := by unfold Amp.gotG Amp.ok; simp [h0]
    rw [e1, e2]
    clear e1 e2
    go_enter Try.func21, Try.ntmps21
    go_wp2
    go_ret
    exact ⟨rfl, H.out, one_refl _ _⟩

theorem rleft_any (b : Nat) (g s : Int) (v : Bool) (w : World) (h : RLim w b g s v) :
    Calls Try.prog 33 #[.pointer (some ⟨b, 0, none⟩)] w fun e w' => e = .returned (.int .i64 (Amp.left v g s)) ∧ Below w.heap.size w w' := by
  have c0 := h.cell 0
  have c1 := h.cell 1
  have c2 := h.cell 2
  simp at c0 c1 c2
  clear h
  cases v
  · have e : Amp.left false g s = Sat.sub (Sat.mul 3 g) s := rfl
    rw [e]
    clear e
    go_enter Try.func33, Try.ntmps33
    go_wp2_with fail
    have d0 := fun d os => cell_regrown c0 d os
    have d1 := fun d os => cell_regrown c1 d os
    clear c0 c1 c2
    refine wp_region_quiet_below (by kernel_rfl) (by kernel_rfl) ?_
    repeat (go_big_quiet_step ((first | (go_at_call 40; with_reducible exact Calls.regrown_of (rmul_any _ _ _)) | (go_at_call 39; with_reducible exact Calls.regrown_of (rsub_any _ _ _)))))
    refine wpQuiet_nil ?_
    intro wq hw'
    obtain ⟨⟨dq, osq⟩, hw''⟩ := hw'
    have hbq := regrown_below hw''
    clear hw'' dq osq
    clear d0 d1
    go_wp2
    go_ret
    exact ⟨rfl, hbq⟩
  · have e : Amp.left true g s = 9007199254740991 := rfl
    rw [e]
    clear e
    go_enter Try.func33, Try.ntmps33
    go_wp2
    go_ret
    exact ⟨rfl, Below.refl _ _⟩

theorem rsent_any (b : Nat) (g s n : Int) (v : Bool) (w : World) (h : RLim w b g s v) :
    Calls Try.prog 22 #[.pointer (some ⟨b, 0, none⟩), .int .i64 n] w fun e w' => e = .returned (.int .i64 (Amp.sentE v g s n)) ∧ RLim w' b g (Amp.sentS v g s n) v ∧ w.grownBy w' (some b) := by
  have c1 := h.cell 1
  have z1 := h.frozen 1
  simp at c1
  have H := Lib.hid h
  clear h
  have HL := Lib.hid (rleft_any b g s v _ H.out)
  cases hk : Amp.ok n
  · have e1 : Amp.sentE v g s n = 2 := by unfold Amp.sentE; rw [hk]; rfl
    have e2 : Amp.sentS v g s n = s := by unfold Amp.sentS Amp.can; rw [hk]; rfl
    rw [e1, e2]
    clear e1 e2 HL
    unfold Amp.ok at hk
    simp at hk
    by_cases h0 : 0 ≤ n
    · have h1 : 65535 < n := hk h0
      clear hk
      go_enter Try.func22, Try.ntmps22
      go_wp2
      go_ret
      exact ⟨rfl, H.out, one_refl _ _⟩
    · clear hk
      go_enter Try.func22, Try.ntmps22
      go_wp2
      go_ret
      exact ⟨rfl, H.out, one_refl _ _⟩
  · have hk' : 0 ≤ n ∧ n ≤ 65535 := by unfold Amp.ok at hk; simpa using hk
    obtain ⟨h0, h1⟩ := hk'
    by_cases hn : n ≤ Amp.left v g s
    · have e1 : Amp.sentE v g s n = 0 := by unfold Amp.sentE; rw [hk, if_pos rfl, if_pos hn]
      have e2 : Amp.sentS v g s n = Sat.add s n := by unfold Amp.sentS Amp.can; rw [hk]; simp [hn]
      rw [e1, e2]
      clear e1 e2 hk
      generalize Amp.left v g s = L at *
      go_enter Try.func22, Try.ntmps22
      go_wp2_with (first | (go_at_call 32; (with_reducible refine (radd_same _ _ _).mono ?_); rintro e w1 ⟨rfl, rfl⟩) | (go_at_call 33; (with_reducible refine HL.out.mono ?_); rintro e w1 ⟨rfl, hb⟩; have k1 := (H.out.later hb).cell 1; have y1 := (H.out.later hb).frozen 1; simp at k1))
      go_ret
      exact ⟨rfl, (H.out.later hb).set_ 1 _, one_set (one_later (one_refl _ _) hb) _ _⟩
    · have e1 : Amp.sentE v g s n = 212 := by unfold Amp.sentE; rw [hk, if_pos rfl, if_neg hn]
      have e2 : Amp.sentS v g s n = s := by unfold Amp.sentS Amp.can; rw [hk]; simp [hn]
      rw [e1, e2]
      clear e1 e2 hk
      generalize Amp.left v g s = L at *
      go_enter Try.func22, Try.ntmps22
      go_wp2_with (go_at_call 33; (with_reducible refine HL.out.mono ?_); rintro e w1 ⟨rfl, hb⟩)
      go_ret
      exact ⟨rfl, H.out.later hb, one_later (one_refl _ _) hb⟩

theorem rcan_any (b : Nat) (g s n : Int) (v : Bool) (w : World) (h : RLim w b g s v) :
    Calls Try.prog 34 #[.pointer (some ⟨b, 0, none⟩), .int .i64 n] w fun e w' => e = .returned (.bool (Amp.can v g s n)) ∧ Below w.heap.size w w' := by
  have HL := Lib.hid (rleft_any b g s v _ h)
  clear h
  by_cases h0 : 0 ≤ n
  · by_cases h1 : n ≤ 65535
    · have e1 : Amp.can v g s n = decide (n ≤ Amp.left v g s) := by unfold Amp.can Amp.ok; simp [h0, h1]
      rw [e1]
      clear e1
      generalize Amp.left v g s = L at *
      go_enter Try.func34, Try.ntmps34
      go_wp2_with (go_at_call 33; (with_reducible refine HL.out.mono ?_); rintro e w1 ⟨rfl, hb⟩)
      go_ret
      exact ⟨rfl, hb⟩
    · have e1 : Amp.can v g s n = false := by unfold Amp.can Amp.ok; simp [h1]
      rw [e1]
      clear e1 HL
      go_enter Try.func34, Try.ntmps34
      go_wp2
      go_ret
      exact ⟨rfl, Below.refl _ _⟩
  · have e1 : Amp.can v g s n = false := by unfold Amp.can Amp.ok; simp [h0]
    rw [e1]
    clear e1 HL
    go_enter Try.func34, Try.ntmps34
    go_wp2
    go_ret
    exact ⟨rfl, Below.refl _ _⟩

theorem rvalidate_any (b : Nat) (g s : Int) (v : Bool) (w : World) (h : RLim w b g s v) :
    Calls Try.prog 26 #[.pointer (some ⟨b, 0, none⟩)] w fun e w' => e = .returned (.int .i64 0) ∧ RLim w' b g s true ∧ w.grownBy w' (some b) := by
  have c2 := h.cell 2
  have z2 := h.frozen 2
  simp at c2
  have H := Lib.hid h
  clear h
  go_enter Try.func26, Try.ntmps26
  go_wp2
  go_ret
  exact ⟨rfl, H.out.set_ 2 _, one_set (one_refl _ _) _ _⟩

theorem rcopy_any (b : Nat) (g s : Int) (v : Bool) (w : World) (h : RLim w b g s v)  :
    Calls Try.prog 23 #[.pointer (some ⟨b, 0, none⟩)] w fun e w' => e = .returned (.pointer (some ⟨w.heap.size, 0, none⟩)) ∧ RLim w' w.heap.size g s v ∧ Below w.heap.size w w' := by
  have c0 := h.cell 0
  have c1 := h.cell 1
  have c2 := h.cell 2
  simp at c0 c1 c2
  clear h
  go_enter Try.func23, Try.ntmps23
  go_wp2
  go_ret
  exact ⟨rfl, Blk.new _ _ _, (by repeat (first | with_reducible assumption | with_reducible exact Below.refl _ _ | with_reducible exact later ‹_› ‹_› | refine later ?_ (by with_reducible assumption) | refine laterA ?_ _ | refine laterDN ?_ _ | refine laterD ?_ | refine laterR ?_ _ _))⟩

end Go.Proofs.Ythlpjpcmbpbplaa
