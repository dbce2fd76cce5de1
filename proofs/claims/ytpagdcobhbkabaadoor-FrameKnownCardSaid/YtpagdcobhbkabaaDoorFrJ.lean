/-
  Layer 5: the program's Check.
-/
import Derived.Test.YtpagdcobhbkabaaDoorFrI
namespace Go.Proofs.YtpagdcobhbkabaaDoor
open Go.RowKit Go.Sort Go.Shelf Go.Deep Go.WideShapes

attribute [local go_sem] Oper.semAt_some

theorem idx3_0 (x0 x1 x2 : Value) (w : World) : (Instr.index 23 (.agg #[x0, x1, x2]) (.int .i64 0)).run Tryd.prog w = .ok x0 w := by
  simp [Instr.index, run_underlying Tryd.underlying23, asIntOf, go_sem]
theorem idx3_1 (x0 x1 x2 : Value) (w : World) : (Instr.index 23 (.agg #[x0, x1, x2]) (.int .i64 1)).run Tryd.prog w = .ok x1 w := by
  simp [Instr.index, run_underlying Tryd.underlying23, asIntOf, go_sem]
theorem idx3_2 (x0 x1 x2 : Value) (w : World) : (Instr.index 23 (.agg #[x0, x1, x2]) (.int .i64 2)).run Tryd.prog w = .ok x2 w := by
  simp [Instr.index, run_underlying Tryd.underlying23, asIntOf, go_sem]
attribute [local go_sem] idx3_0 idx3_1 idx3_2
theorem bodyM_ret {F : Fence} {n : Nat} {P : Program} {fn : Func} {R : Ending → World → Prop} {a : Act} {w : World} {v : Value}
    (hr : (results fn a.tmps).run P w = .ok v w) (hd : a.defers = []) (hR : R (.returned v) w) : bodyPostM F n P fn R .ret a w := by
  show LeavesInM F n P fn a.tmps R a.defers .returning w
  rw [hd]
  exact ⟨v, hr, hR⟩
theorem bodyM_ret1 {F : Fence} {n : Nat} {P : Program} {fn : Func} {R : Ending → World → Prop} {a : Act} {w : World} {v : Value} {D : Nat}
    (hd : a.defers = [{ target := .collected D, args := #[] }]) (hK : w.heap[D]? = some (.deferred (some [])))
    (hr : (results fn a.tmps).run P (w.putObj D (.deferred none)) = .ok v (w.putObj D (.deferred none))) (hR : R (.returned v) (w.putObj D (.deferred none))) : bodyPostM F n P fn R .ret a w := by
  show LeavesInM F n P fn a.tmps R a.defers .returning w
  rw [hd]
  exact ⟨by simp, .inl ⟨_, _, rfl, run_takeDeferred hK, ⟨v, hr, hR⟩⟩⟩
theorem check_results {tmps : Array Value} {w : World} {g : Nat} {x : Int} (hp : tmps.getD 2 undef = .pointer (some ⟨g, 0, none⟩)) (hc : w.cell? ⟨g, 0, none⟩ = some (.int .i64 x)) :
    (results Tryd.f15 tmps).run Tryd.prog w = .ok (.int .i64 x) w := by
  have hp' : tmps[2]?.getD undef = .pointer (some ⟨g, 0, none⟩) := by simpa using hp
  simp [results, Tryd.f15, go_sem, hp', hc]
theorem cell_putObj_other {W : World} {D : Nat} {o : Obj} {p : Addr} (h : p.block ≠ D) : (W.putObj D o).cell? p = W.cell? p := World.cell?_of_block (World.putObj_heap_other (by omega))
theorem below_put {B D : Nat} {a b : World} (h : Below B a b) (hD : B ≤ D) (o : Obj) : Below B a (b.putObj D o) :=
  ⟨h.os, h.tape, h.output, by simpa using h.size, fun k hk => (World.putObj_heap_other (by omega)).trans (h.block k hk)⟩
/-- What Check answers. -/
def ChkPost (w0 : World) (a : Frm.Ak) (e : Ending) (w' : World) : Prop := e = .returned (.int .i64 (if Frm.chk a then 0 else 2)) ∧ Below w0.heap.size w0 w'
theorem check_bad {w0 w : World} {a : Frm.Ak} {ac : Act} (h : Frm.chk a = false) (hd : ac.defers = []) (hp : ac.tmps.getD 2 undef = .pointer (some ⟨w0.heap.size + 1, 0, none⟩)) (hc : (w.cell? ⟨w0.heap.size + 1, 0, none⟩).isSome = true) (hb : Below w0.heap.size w0 w) :
    bodyPostM Fence.wide 3 Tryd.prog Tryd.f15 (ChkPost w0 a) .ret ac (w.setCell ⟨w0.heap.size + 1, 0, none⟩ (.int .i64 2)) := by
  refine bodyM_ret (check_results hp (World.cell?_setCell_same' _ _ _ hc)) hd ⟨by rw [h]; rfl, below_wr hb (by omega) 0 _⟩
theorem check_bad2 {w0 w : World} {a : Frm.Ak} {ac : Act} (h : Frm.chk a = false) (hd : ac.defers = []) (hp : ac.tmps.getD 2 undef = .pointer (some ⟨w0.heap.size + 1, 0, none⟩)) (hc : w.cell? ⟨w0.heap.size + 1, 0, none⟩ = some (.int .i64 2)) (hb : Below w0.heap.size w0 w) :
    bodyPostM Fence.wide 3 Tryd.prog Tryd.f15 (ChkPost w0 a) .ret ac w := by
  refine bodyM_ret (check_results hp hc) hd ⟨by rw [h]; rfl, hb⟩
def NonNeg (pre : List (Int × (Int × Int))) : Prop := ∀ p ∈ pre, 0 ≤ p.1
def SomeNeg (pre : List (Int × (Int × Int))) : Prop := ∃ p ∈ pre, p.1 < 0
theorem NonNeg.snoc {pre : List (Int × (Int × Int))} {x : Int × (Int × Int)} (h : NonNeg pre) (hx : ¬ x.1 < 0) : NonNeg (pre ++ [x]) := fun p hp => (List.mem_append.1 hp).elim (h p) (fun e => by simp at e; subst e; omega)
theorem gapsOk_iff : ∀ rs : List (Int × Int), Frm.gapsOk rs = true ↔ ∀ (j : Nat) p q, rs[j]? = some p → rs[j + 1]? = some q → q.2 ≤ p.1 - 2
  | [] => by simp [Frm.gapsOk]
  | [x] => by
    refine ⟨fun _ j p q _ h2 => ?_, fun _ => rfl⟩
    simp at h2
  | x :: y :: t => by
    have ih := gapsOk_iff (y :: t)
    simp only [Frm.gapsOk, Bool.and_eq_true, decide_eq_true_eq, ih]
    constructor
    · rintro ⟨h1, h2⟩ j p q hp hq
      cases j with
      | zero => simp at hp hq; subst hp hq; exact h1
      | succ j => exact h2 j p q (by simpa using hp) (by simpa using hq)
    · intro h
      exact ⟨h 0 x y rfl rfl, fun j p q hp hq => h (j + 1) p q (by simpa using hp) (by simpa using hq)⟩
theorem mem_gpn {rs : List (Int × Int)} {k : Nat} {p : Int × (Int × Int)} : p ∈ gpn rs k ↔ ∃ i, i < k ∧ gpk rs i = p := by
  simp [gpn, List.mem_map, List.mem_range]
theorem gaps_nn {rs : List (Int × Int)} {m : Nat} (hm : rs.length = m) (h : NonNeg (gpn rs m)) : Frm.gapsOk rs = true := by
  rw [gapsOk_iff]
  intro j p q hp hq
  have hj : j + 1 < rs.length := (List.getElem?_eq_some_iff.1 hq).1
  have := h (gpk rs (j + 1)) (mem_gpn.2 ⟨j + 1, by omega, rfl⟩)
  unfold gpk at this
  rw [if_neg (by omega), show j + 1 - 1 = j by omega, hp, hq] at this
  simp only [Option.getD_some] at this
  omega
theorem gaps_neg {rs : List (Int × Int)} {k m : Nat} (hm : rs.length = m) (hk : k ≤ m) (h : SomeNeg (gpn rs k)) : Frm.gapsOk rs = false := by
  cases hg : Frm.gapsOk rs with
  | false => rfl
  | true =>
    rw [gapsOk_iff] at hg
    obtain ⟨p, hp, hn⟩ := h
    obtain ⟨i, hi, rfl⟩ := mem_gpn.1 hp
    unfold gpk at hn
    cases i with
    | zero => simp at hn
    | succ j =>
      have h1 : rs[j]? = some rs[j] := List.getElem?_eq_getElem (by omega)
      have h2 : rs[j + 1]? = some rs[j + 1] := List.getElem?_eq_getElem (by omega)
      have := hg j _ _ h1 h2
      rw [if_neg (by omega), show j + 1 - 1 = j by omega, h1, h2] at hn
      simp only [Option.getD_some] at hn
      omega
theorem zip2 (p1 p2 : Tmp) (x : Int × (Int × Int)) (T : Array Value) : ((#[p1, p2] : Array Tmp).zip (encG x)).foldl (fun t (p, v) => t.setIfInBounds p v) T = (T.setIfInBounds p1 (.int .i64 x.1)).setIfInBounds p2 (.agg #[.int .i64 x.2.1, .int .i64 x.2.2]) := by simp [encG]
theorem all_bad {rs : List (Int × Int)} {k : Nat} {p : Int × Int} (h : rs[k]? = some p) (hp : Frm.okR p = false) : rs.all Frm.okR = false := by
  cases hh : rs.all Frm.okR with
  | false => rfl
  | true => rw [List.all_eq_true.1 hh p (List.mem_of_getElem? h)] at hp; exact hp
theorem take_all {rs : List (Int × Int)} {k : Nat} {p : Int × Int} (h : rs[k]? = some p) : (rs.take (k + 1)).all Frm.okR = ((rs.take k).all Frm.okR && Frm.okR p) := by
  rw [List.take_add_one, h]
  simp
theorem check_bad3 {w0 w : World} {a : Frm.Ak} {ac : Act} {D : Nat} (h : Frm.chk a = false) (hd : ac.defers = [{ target := .collected D, args := #[] }]) (hp : ac.tmps.getD 2 undef = .pointer (some ⟨w0.heap.size + 1, 0, none⟩)) (hc : (w.cell? ⟨w0.heap.size + 1, 0, none⟩).isSome = true) (hb : Below w0.heap.size w0 w)
    (hK : w.heap[D]? = some (.deferred (some []))) (hD : w0.heap.size + 1 < D) :
    bodyPostM Fence.wide 3 Tryd.prog Tryd.f15 (ChkPost w0 a) .ret ac (w.setCell ⟨w0.heap.size + 1, 0, none⟩ (.int .i64 2)) := by
  have hK' := (KeepsOthers.setCell w ⟨w0.heap.size + 1, 0, none⟩ (.int .i64 2)).same D _ hK rfl
  refine bodyM_ret1 hd hK' (check_results (x := 2) hp ?_) ⟨by rw [h]; rfl, ?_⟩
  · rw [cell_putObj_other (by simp only; omega)]
    exact World.cell?_setCell_same' _ _ _ hc
  · exact below_put (below_wr hb (by omega) 0 _) (by omega) _
set_option maxRecDepth 100000 in
set_option maxHeartbeats 4000000 in
theorem check_any (a : Frm.Ak) (A : Option Addr) (m c : Nat) (w : World) (hr : Rg w A m c a.rs) (hm : m ≤ 1000) :
    Calls Tryd.prog 15 #[av a A m c] w (ChkPost w a) := by
  have hlen := hr.1
  have hc1 : Frm.chk a = (decide (1 ≤ a.rs.length) && decide (a.rs.length ≤ 256) && Frm.isN a.d && a.rs.all Frm.okR && Frm.gapsOk a.rs && Frm.okE a.mkd a.e0 && Frm.okE a.mkd a.e1 && Frm.okE a.mkd a.e2) := rfl
  rw [hlen] at hc1
  obtain ⟨W0, hW0⟩ : ∃ W0, (w.alloc (.cells #[.int .i64 a.d, .slice A m c, .bool a.mkd, .int .i64 a.e0, .int .i64 a.e1, .int .i64 a.e2] 25)).alloc (.cells #[.int .i64 0] 28) = W0 := ⟨_, rfl⟩
  have hbA : Blk W0 w.heap.size 25 #[.int .i64 a.d, .slice A m c, .bool a.mkd, .int .i64 a.e0, .int .i64 a.e1, .int .i64 a.e2] := by
    rw [← hW0]; exact (Blk.new w _ _).later (laterA (Below.refl _ _) _)
  have hbR : Blk W0 (w.heap.size + 1) 28 #[.int .i64 0] := by
    have := Blk.new (w.alloc (.cells #[.int .i64 a.d, .slice A m c, .bool a.mkd, .int .i64 a.e0, .int .i64 a.e1, .int .i64 a.e2] 25)) 28 #[.int .i64 0]
    rw [World.size_alloc] at this
    rw [← hW0]; exact this
  have hlow : Below w.heap.size w W0 := by rw [← hW0]; exact laterA (laterA (Below.refl _ _) _) _
  have hr0 := hr.later hlow
  have c0 := hbA.cell 0
  have c1 := hbA.cell 1
  have c2 := hbA.cell 2
  have c3 := hbA.cell 3
  have c4 := hbA.cell 4
  have c5 := hbA.cell 5
  have r0 := hbR.cell 0
  have f0 := hbR.frozen 0
  simp at c0 c1 c2 c3 c4 c5 r0
  have hI := isn_any a.d W0
  unfold av
  refine (callsIn_wide (n := 3)).1 ?_
  refine callsIn_of_wp_marks Tryd.func15 rfl trivial ?_ rfl
  simp only [Tryd.ntmps15, List.size_toArray, List.length_cons, List.length_nil, Nat.reduceAdd, Nat.reduceSub, Array.replicate_succ, Array.replicate_zero, List.push_toArray, List.append_toArray, List.nil_append, List.cons_append]
  refine wpIn_wide.2 ?_
  replace hW0 := Lib.hid hW0
  replace hbA := Lib.hid hbA
  replace hbR := Lib.hid hbR
  replace hlow := Lib.hid hlow
  replace hr0 := Lib.hid hr0
  replace hr := Lib.hid hr
  by_cases h1 : (m : Int) < 1
  · have hbad : Frm.chk a = false := by rw [hc1, decide_eq_false (by omega)]; rfl
    go_wp2_with fail
    refine check_bad2 hbad rfl rfl ?_ (laterA (laterA (Below.refl _ _) _) _)
    have := (Blk.new (w.alloc (.cells #[.int .i64 a.d, .slice A m c, .bool a.mkd, .int .i64 a.e0, .int .i64 a.e1, .int .i64 a.e2] 25)) 28 #[.int .i64 2]).cell 0
    rw [World.size_alloc] at this
    exact this
  by_cases h2 : (m : Int) > 256
  · have hbad : Frm.chk a = false := by rw [hc1, decide_eq_false (show ¬ m ≤ 256 by omega)]; simp
    go_wp2_with fail
    refine check_bad2 hbad rfl rfl ?_ (laterA (laterA (Below.refl _ _) _) _)
    have := (Blk.new (w.alloc (.cells #[.int .i64 a.d, .slice A m c, .bool a.mkd, .int .i64 a.e0, .int .i64 a.e1, .int .i64 a.e2] 25)) 28 #[.int .i64 2]).cell 0
    rw [World.size_alloc] at this
    exact this
  rw [decide_eq_true (show 1 ≤ m by omega), decide_eq_true (show m ≤ 256 by omega)] at hc1
  cases h3 : Frm.isN a.d with
  | false =>
    have hbad : Frm.chk a = false := by rw [hc1, h3]; rfl
    rw [h3] at hI
    go_wp2_with fail
    rw [hW0.out]
    with_reducible refine hI.mono ?_
    rintro e w1 ⟨rfl, rfl⟩
    go_wp2_with fail
    exact check_bad hbad rfl rfl (by rw [r0]; rfl) hlow.out
  | true =>
    rw [h3] at hI hc1
    simp only [Bool.true_and, Bool.and_assoc] at hc1
    go_wp2_with fail
    rw [hW0.out]
    with_reducible refine hI.mono ?_
    rintro e w1 ⟨rfl, rfl⟩
    clear hI
    go_wp2_with fail
    go_loopw [27] (fun i wr => ∃ k : Nat, i = .int .i64 k ∧ k ≤ m ∧ (a.rs.take k).all Frm.okR = true ∧ Below W0.heap.size W0 wr) (fun i _ => m - (intOf i).toNat)
    case atStart => exact ⟨0, rfl, Nat.zero_le _, by simp, Below.refl _ _⟩
    case round =>
      obtain ⟨k, rfl, hk, htk, hbk⟩ := hrel
      by_cases hkm : k < m
      · have hki : (k : Int) < (m : Int) := by omega
        have hrw := hr0.out.later hbk
        obtain ⟨q, off, rfl, hq, hcs⟩ := hrw.at (by omega)
        obtain ⟨lo, hi, hx⟩ : ∃ lo hi, a.rs[k]'(by omega) = (lo, hi) := ⟨_, _, rfl⟩
        have hx? : a.rs[k]? = some (lo, hi) := by rw [List.getElem?_eq_getElem (by omega), hx]
        obtain ⟨g0, g1⟩ := hcs k (lo, hi) hx?
        simp only at g0 g1
        have hwk1 : IntKind.i64.wrap ((k : Int) + 1) = (k : Int) + 1 := IntWalk.i64_in _ (by omega)
        have hsz := hbk.size
        have hRr := (hbR.out.later hbk).cell 0
        simp at hRr
        replace hbk := Lib.hid hbk
        replace htk := Lib.hid htk
        replace hx? := Lib.hid hx?
        replace hrw := Lib.hid hrw
        replace hc1 := Lib.hid hc1
        clear hx hcs
        go_wp2_with fail
        have hb2 := laterA (Below.refl wr.heap.size wr) (.cells #[.int .i64 lo, .int .i64 hi] 36)
        have hx2 := Blk.new wr 36 #[.int .i64 lo, .int .i64 hi]
        have hbk2 := old_later2 hbk.out hb2 hbk.out.size
        generalize wr.alloc (.cells #[.int .i64 lo, .int .i64 hi] 36) = W2 at hb2 hx2 hbk2 ⊢
        have x0 := hx2.cell 0
        have x1 := hx2.cell 1
        have hR2 := (hbR.out.later hbk2).cell 0
        have ff := (hbR.out.later hbk2).frozen 0
        simp at x0 x1 hR2
        have hlow2 := Lib.hid (old_later2 hlow.out hbk2 hlow.out.size)
        replace hbk2 := Lib.hid hbk2
        clear hb2 hx2
        with_reducible refine (isn_any lo W2).mono ?_
        rintro e w2 ⟨rfl, rfl⟩
        cases hl : Frm.isN lo with
        | false =>
          have hbad : Frm.chk a = false := by rw [hc1.out, all_bad hx?.out (by unfold Frm.okR; rw [hl]; rfl)]; rfl
          go_wp2_with fail
          exact check_bad hbad rfl rfl (by rw [hR2]; rfl) hlow2.out
        | true =>
          go_wp2_with fail
          with_reducible refine (isn_any hi W2).mono ?_
          rintro e w2 ⟨rfl, rfl⟩
          cases hh : Frm.isN hi with
          | false =>
            have hbad : Frm.chk a = false := by rw [hc1.out, all_bad hx?.out (by unfold Frm.okR; rw [hl, hh]; rfl)]; rfl
            go_wp2_with fail
            exact check_bad hbad rfl rfl (by rw [hR2]; rfl) hlow2.out
          | true =>
            by_cases hgt : lo > hi
            · have hbad : Frm.chk a = false := by rw [hc1.out, all_bad hx?.out (by unfold Frm.okR; rw [decide_eq_false (by simp only; omega), Bool.and_false])]; rfl
              go_wp2_with fail
              exact check_bad hbad rfl rfl (by rw [hR2]; rfl) hlow2.out
            · go_wp2_with fail
              go_roundw
              case rel => exact ⟨k + 1, by simp, by omega, by rw [take_all hx?.out, htk.out]; unfold Frm.okR; rw [hl, hh, decide_eq_true (by simp only; omega)]; rfl, hbk2.out⟩
              case measure => simp [intOf]; omega
      · obtain rfl : k = m := by omega
        have hall : a.rs.all Frm.okR = true := by rw [List.take_of_length_le (by omega)] at htk; exact htk
        rw [hall, Bool.true_and] at hc1
        clear c0 c1 c2 c3 c4 c5 r0 f0 hW0
        have hbAr := hbA.out.later hbk
        have hbRr := hbR.out.later hbk
        have hlowr := old_later2 hlow.out hbk hlow.out.size
        have hr1 := hr0.out.later hbk
        have c0 := hbAr.cell 0
        have c1 := hbAr.cell 1
        have c2 := hbAr.cell 2
        have c3 := hbAr.cell 3
        have c4 := hbAr.cell 4
        have c5 := hbAr.cell 5
        simp at c0 c1 c2 c3 c4 c5
        replace hbAr := Lib.hid hbAr
        replace hbRr := Lib.hid hbRr
        replace hlowr := Lib.hid hlowr
        replace hr1 := Lib.hid hr1
        replace hc1 := Lib.hid hc1
        replace hbk := Lib.hid hbk
        clear hbA hbR hlow hr0 htk
        go_wp2_with fail
        have hG := gaps_any a A k c wr
        unfold av at hG
        with_reducible refine hG.mono ?_
        rintro e w2 ⟨rfl, hw2⟩
        clear hG
        have hb2 := laterA (Below.refl wr.heap.size wr) (.cells #[.int .i64 a.d, .slice A k c, .bool a.mkd, .int .i64 a.e0, .int .i64 a.e1, .int .i64 a.e2] 25)
        have hbX := Blk.new wr 25 #[.int .i64 a.d, .slice A k c, .bool a.mkd, .int .i64 a.e0, .int .i64 a.e1, .int .i64 a.e2]
        rw [← hw2] at hb2 hbX
        replace hb2 := Lib.hid hb2
        replace hbX := Lib.hid hbX
        replace hw2 := Lib.hid hw2
        go_wp2_with fail
        have hr2 := hr1.out.later hb2.out
        have hlow3 := old_later2 hlowr.out hb2.out hlowr.out.size
        have hbR2 := hbRr.out.later hb2.out
        have hXlt := hbX.out.lt
        have hAlt : ∀ a, A = some a → a.block < w2.heap.size := by
          obtain ⟨_, _, _, ⟨h4, _, _⟩ | ⟨q, off, h4, hq, _⟩⟩ := hr2
          · intro a ha; rw [h4] at ha; simp at ha
          · intro a ha; rw [h4] at ha; injection ha with ha; subst ha; exact hq
        refine (wpIn_wide (n := 3)).1 ?_
        refine' wpIn_rangeFunc_ownF (F := Fence.wide) rfl (by omega) (gf := 57) (lb := #[.pointer (some ⟨wr.heap.size, 0, none⟩)]) rfl trivial (enters_of Tryd.func57 (by kernel_rfl) rfl)
          (gaps_stops (3 - 1) wr.heap.size a A k c w2 (by omega) hm hall hbX.out hr2) Kg.trans (Kg.put hXlt hAlt) (Below.refl _ _) (fun _ => rfl)
          (fun pre W => NonNeg pre ∧ Below w2.heap.size w2 W)
          (fun c pre W => (c = .ret ∧ SomeNeg pre ∧ W.cell? ⟨w.heap.size + 1, 0, none⟩ = some (.int .i64 2)) ∧ Below w.heap.size w W)
          (OwnFrom.and (Own.from (fun s A B row hs hg hr => hs) _) (ownFrom_below (Nat.le_refl _) (Nat.le_refl _)))
          (fun c => OwnFrom.and (Own.from (fun s A B row hs hg hr => ⟨hs.1, hs.2.1, cell_kept hs.2.2 hg hr⟩) _) (ownFrom_below (Nat.le_refl _) hlow3.size))
          ⟨fun p hp => by simp at hp, Below.refl _ _⟩ _ ?assign ?body ?done ?stop
        case assign =>
          intro l x W K hK
          rw [zip2]
          gi_wp2
          exact hK
        case body =>
          rintro l pre x W ⟨hp, hB⟩ _
          have rc := (hbR2.later hB).cell 0
          have rf := (hbR2.later hB).frozen 0
          simp at rc
          have hBl := old_later2 hlow3 hB hlow3.size
          replace hp := Lib.hid hp
          replace hB := Lib.hid hB
          replace hBl := Lib.hid hBl
          by_cases hx : x.1 < 0
          · gi_wp2
            exact ⟨KeepsOthers.setCell _ _ _, ⟨rfl, ⟨x, by simp, hx⟩, World.cell?_setCell_same' _ _ _ (by rw [rc]; rfl)⟩, below_wr hBl.out (by omega) 0 _⟩
          · gi_wp2
            exact ⟨KeepsOthers.refl _, Kg.refl _, hp.out.snoc (by omega), hB.out⟩
        case done =>
          rintro D ys W hD rfl ⟨hp, hB⟩ hK
          have hgok := gaps_nn hlen hp
          replace hc1 := hc1.out
          rw [hgok, Bool.true_and] at hc1
          have hbA3 := (hbAr.out.later hb2.out).later hB
          have hbR3 := hbR2.later hB
          have hlow4 := old_later2 hlow3 hB hlow3.size
          clear c0 c1 c2 c3 c4 c5
          have c3 := hbA3.cell 3
          have c4 := hbA3.cell 4
          have c5 := hbA3.cell 5
          have c2 := hbA3.cell 2
          have r0 := hbR3.cell 0
          have f0 := hbR3.frozen 0
          simp at c2 c3 c4 c5 r0
          have hDb : w.heap.size + 1 < D := Nat.lt_of_lt_of_le hbR2.lt hD
          have hlwD : w.heap.size ≤ D := by omega
          replace hbA3 := Lib.hid hbA3
          replace hbR3 := Lib.hid hbR3
          replace hlow4 := Lib.hid hlow4
          replace hp := Lib.hid hp
          replace hK := Lib.hid hK
          replace hDb := Lib.hid hDb
          replace hlwD := Lib.hid hlwD
          clear hbX hb2 hr2 hr1 hAlt hXlt hgok hall hB hD hlow3 hbR2 hw2 hbAr hbRr hlowr hbk
          obtain ⟨mk2, hmk⟩ : ∃ b, a.mkd = b := ⟨_, rfl⟩
          rw [hmk] at c2
          replace hmk := Lib.hid hmk
          go_wp2_with fail
          go_loopw [57] (fun i wr => ∃ k : Int, i = .int .i64 k ∧ (k = 0 ∨ (k = 1 ∧ Frm.okE a.mkd a.e0 = true) ∨ (k = 2 ∧ Frm.okE a.mkd a.e0 = true ∧ Frm.okE a.mkd a.e1 = true) ∨ (k = 3 ∧ Frm.okE a.mkd a.e0 = true ∧ Frm.okE a.mkd a.e1 = true ∧ Frm.okE a.mkd a.e2 = true)) ∧ W = wr) (fun i _ => 3 - (intOf i).toNat)
          case atStart => exact ⟨0, rfl, .inl rfl, rfl⟩
          case round =>
            obtain ⟨kk, rfl, hkk, rfl⟩ := hrel
            rcases hkk with rfl | ⟨rfl, ho0⟩ | ⟨rfl, ho0, ho1⟩ | ⟨rfl, ho0, ho1, ho2⟩
            · go_wp2_with fail
              with_reducible refine (isn_any a.e0 W).mono ?_
              rintro e w3 ⟨rfl, rfl⟩
              cases hn : Frm.isN a.e0 with
              | false =>
                have hok : Frm.okE a.mkd a.e0 = false := by unfold Frm.okE; rw [hn]; rfl
                have hbad : Frm.chk a = false := by rw [hc1, hok]; simp
                go_wp2_with fail
                exact check_bad3 hbad rfl rfl (by rw [r0]; rfl) hlow4.out hK.out hDb.out
              | true =>
                by_cases hpos : a.e0 > 0
                · cases mk2 with
                  | false =>
                    have hok : Frm.okE a.mkd a.e0 = false := by unfold Frm.okE; rw [hn, hmk.out, decide_eq_false (by omega)]; rfl
                    have hbad : Frm.chk a = false := by rw [hc1, hok]; simp
                    go_wp2_with fail
                    exact check_bad3 hbad rfl rfl (by rw [r0]; rfl) hlow4.out hK.out hDb.out
                  | true =>
                    have hok : Frm.okE a.mkd a.e0 = true := by unfold Frm.okE; rw [hn, hmk.out]; rfl
                    go_wp2_with fail
                    go_roundw
                    case rel => exact ⟨1, rfl, .inr (.inl ⟨rfl, hok⟩), by first | rfl | trivial⟩
                    case measure => simp [intOf]
                · have hok : Frm.okE a.mkd a.e0 = true := by
                    have := (Frm.isN_iff _).1 hn
                    unfold Frm.okE
                    rw [hn, decide_eq_true (show a.e0 = 0 by omega)]
                    simp
                  go_wp2_with fail
                  go_roundw
                  case rel => exact ⟨1, rfl, .inr (.inl ⟨rfl, hok⟩), by first | rfl | trivial⟩
                  case measure => simp [intOf]
            · go_wp2_with fail
              with_reducible refine (isn_any a.e1 W).mono ?_
              rintro e w3 ⟨rfl, rfl⟩
              cases hn : Frm.isN a.e1 with
              | false =>
                have hok : Frm.okE a.mkd a.e1 = false := by unfold Frm.okE; rw [hn]; rfl
                have hbad : Frm.chk a = false := by rw [hc1, hok]; simp
                go_wp2_with fail
                exact check_bad3 hbad rfl rfl (by rw [r0]; rfl) hlow4.out hK.out hDb.out
              | true =>
                by_cases hpos : a.e1 > 0
                · cases mk2 with
                  | false =>
                    have hok : Frm.okE a.mkd a.e1 = false := by unfold Frm.okE; rw [hn, hmk.out, decide_eq_false (by omega)]; rfl
                    have hbad : Frm.chk a = false := by rw [hc1, hok]; simp
                    go_wp2_with fail
                    exact check_bad3 hbad rfl rfl (by rw [r0]; rfl) hlow4.out hK.out hDb.out
                  | true =>
                    have hok : Frm.okE a.mkd a.e1 = true := by unfold Frm.okE; rw [hn, hmk.out]; rfl
                    go_wp2_with fail
                    go_roundw
                    case rel => exact ⟨2, rfl, .inr (.inr (.inl ⟨rfl, ho0, hok⟩)), by first | rfl | trivial⟩
                    case measure => simp [intOf]
                · have hok : Frm.okE a.mkd a.e1 = true := by
                    have := (Frm.isN_iff _).1 hn
                    unfold Frm.okE
                    rw [hn, decide_eq_true (show a.e1 = 0 by omega)]
                    simp
                  go_wp2_with fail
                  go_roundw
                  case rel => exact ⟨2, rfl, .inr (.inr (.inl ⟨rfl, ho0, hok⟩)), by first | rfl | trivial⟩
                  case measure => simp [intOf]
            · go_wp2_with fail
              with_reducible refine (isn_any a.e2 W).mono ?_
              rintro e w3 ⟨rfl, rfl⟩
              cases hn : Frm.isN a.e2 with
              | false =>
                have hok : Frm.okE a.mkd a.e2 = false := by unfold Frm.okE; rw [hn]; rfl
                have hbad : Frm.chk a = false := by rw [hc1, hok]; simp
                go_wp2_with fail
                exact check_bad3 hbad rfl rfl (by rw [r0]; rfl) hlow4.out hK.out hDb.out
              | true =>
                by_cases hpos : a.e2 > 0
                · cases mk2 with
                  | false =>
                    have hok : Frm.okE a.mkd a.e2 = false := by unfold Frm.okE; rw [hn, hmk.out, decide_eq_false (by omega)]; rfl
                    have hbad : Frm.chk a = false := by rw [hc1, hok]; simp
                    go_wp2_with fail
                    exact check_bad3 hbad rfl rfl (by rw [r0]; rfl) hlow4.out hK.out hDb.out
                  | true =>
                    have hok : Frm.okE a.mkd a.e2 = true := by unfold Frm.okE; rw [hn, hmk.out]; rfl
                    go_wp2_with fail
                    go_roundw
                    case rel => exact ⟨3, rfl, .inr (.inr (.inr ⟨rfl, ho0, ho1, hok⟩)), by first | rfl | trivial⟩
                    case measure => simp [intOf]
                · have hok : Frm.okE a.mkd a.e2 = true := by
                    have := (Frm.isN_iff _).1 hn
                    unfold Frm.okE
                    rw [hn, decide_eq_true (show a.e2 = 0 by omega)]
                    simp
                  go_wp2_with fail
                  go_roundw
                  case rel => exact ⟨3, rfl, .inr (.inr (.inr ⟨rfl, ho0, ho1, hok⟩)), by first | rfl | trivial⟩
                  case measure => simp [intOf]
            · have hgood : Frm.chk a = true := by rw [hc1, ho0, ho1, ho2]; rfl
              go_wp2_with fail
              have hK' := (KeepsOthers.setCell W ⟨w.heap.size + 1, 0, none⟩ (.int .i64 0)).same D _ hK.out rfl
              refine bodyM_ret1 rfl hK' (check_results (x := 0) rfl ?_) ⟨by rw [hgood]; rfl, ?_⟩
              · rw [cell_putObj_other (by have := hDb.out; simp only; omega)]
                exact World.cell?_setCell_same' _ _ _ (by rw [r0]; rfl)
              · exact below_put (below_wr hlow4.out (by omega) 0 _) hlwD.out _
        case stop =>
          rintro D c pre W hD ⟨k', hk', rfl⟩ ⟨⟨rfl, hneg, hcr⟩, hB⟩ hK
          have hbad : Frm.chk a = false := by rw [hc1.out, gaps_neg hlen hk' hneg]; rfl
          have hDb : w.heap.size + 1 < D := Nat.lt_of_lt_of_le hbR2.lt hD
          gi_wp2
          refine bodyM_ret1 rfl hK (check_results (x := 2) rfl ?_) ⟨by rw [hbad]; rfl, ?_⟩
          · rw [cell_putObj_other (by simp only; omega)]; exact hcr
          · exact below_put hB (by omega) _
end Go.Proofs.YtpagdcobhbkabaaDoor
