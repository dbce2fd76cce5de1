/-
  Layer 5: the program's gaps, a function that ranges.
-/
import Derived.RangeFuncBox
import Derived.RangeFuncLeaves
import Derived.RangeFuncFrom
import Derived.Shelf.Abstract
import Derived.WalkKit
import Derived.OwnWalkIn
import Derived.TacticsInMore
import Derived.LoopNIn
import Derived.LoopIn
import Derived.Test.YtpagdcobhbkabaaDoorFrH
namespace Go.Proofs.YtpagdcobhbkabaaDoor
open Go.RowKit Go.Sort Go.Shelf Go.Deep Go.WideShapes

attribute [local go_sem] Oper.semAt_some

/-- The k-th range, and what is between it and the one ahead. -/
def gpk (rs : List (Int × Int)) (k : Nat) : Int × (Int × Int) := (if k = 0 then 0 else (rs[k - 1]?.getD (0, 0)).1 - (rs[k]?.getD (0, 0)).2 - 2, rs[k]?.getD (0, 0))
def gpn (rs : List (Int × Int)) (k : Nat) : List (Int × (Int × Int)) := (List.range k).map (gpk rs)
theorem gpn_succ (rs : List (Int × Int)) (k : Nat) : gpn rs (k + 1) = gpn rs k ++ [gpk rs k] := by simp [gpn, List.range_succ]
theorem gpn_length (rs : List (Int × Int)) (k : Nat) : (gpn rs k).length = k := by simp [gpn]
def encG (x : Int × (Int × Int)) : Array Value := #[.int .i64 x.1, .agg #[.int .i64 x.2.1, .int .i64 x.2.2]]
/-- Two blocks are kept. -/
def Kg (Bx : Nat) (A : Option Addr) (W W' : World) : Prop := W.heap.size ≤ W'.heap.size ∧ W'.heap[Bx]? = W.heap[Bx]? ∧ ∀ a, A = some a → W'.heap[a.block]? = W.heap[a.block]?
theorem Kg.trans {Bx : Nat} {A : Option Addr} {a b c : World} (h : Kg Bx A a b) (k : Kg Bx A b c) : Kg Bx A a c := ⟨Nat.le_trans h.1 k.1, k.2.1.trans h.2.1, fun x hx => (k.2.2 x hx).trans (h.2.2 x hx)⟩
theorem Kg.refl {Bx : Nat} {A : Option Addr} (a : World) : Kg Bx A a a := ⟨Nat.le_refl _, rfl, fun _ _ => rfl⟩
theorem Kg.put {Bx B : Nat} {A : Option Addr} (hx : Bx < B) (hA : ∀ a, A = some a → a.block < B) (W : World) (l : Nat) (o o' : Obj) (hl : B ≤ l) (_ : W.heap[l]? = some o) (_ : o.isCells = false) (_ : o.isWalk = false) : Kg Bx A W (W.putObj l o') :=
  ⟨by simp, World.putObj_heap_other (by omega), fun a ha => World.putObj_heap_other (by have := hA a ha; omega)⟩
theorem Kg.below {Bx : Nat} {A : Option Addr} {w W : World} (h : Below w.heap.size w W) (hx : Bx < w.heap.size) (hA : ∀ a, A = some a → a.block < w.heap.size) : Kg Bx A w W := ⟨h.size, h.block _ hx, fun a ha => h.block _ (hA a ha)⟩
theorem Kg.blk {Bx : Nat} {A : Option Addr} {w W : World} (h : Kg Bx A w W) {t : TypeId} {cs : Array Value} (hx : Blk w Bx t cs) : Blk W Bx t cs := h.2.1.trans hx
theorem Kg.rg {Bx : Nat} {A : Option Addr} {w W : World} (h : Kg Bx A w W) {n c : Nat} {rs : List (Int × Int)} (hx : Rg w A n c rs) : Rg W A n c rs := by
  obtain ⟨h1, h2, h3, h4 | ⟨q, off, rfl, hq, h5⟩⟩ := hx
  · exact ⟨h1, h2, h3, .inl h4⟩
  · have hb : W.heap[q]? = w.heap[q]? := h.2.2 _ rfl
    exact ⟨h1, h2, h3, .inr ⟨q, off, rfl, Nat.lt_of_lt_of_le hq h.1, fun k hk => ⟨(World.cell?_of_block (a := ⟨q, _, none⟩) hb).trans (h5 k hk).1, (World.cell?_of_block (a := ⟨q, _, none⟩) hb).trans (h5 k hk).2⟩⟩⟩
theorem kg_alloc {Bx q off : Nat} {w : World} (hx : Bx < w.heap.size) (hq : q < w.heap.size) (o : Obj) : Kg Bx (some ⟨q, off, none⟩) w (w.alloc o) :=
  Kg.below (laterA (Below.refl _ w) o) hx (fun a ha => by injection ha with ha; subst ha; exact hq)
theorem grown_drewN (w : World) (k : Nat) : w.grownBy (w.drewN k) none := ⟨rfl, rfl, rfl, Nat.le_refl _, fun _ _ _ => rfl⟩
theorem kg_drewN {Bx : Nat} {A : Option Addr} (w : World) (k : Nat) : Kg Bx A w (w.drewN k) := ⟨Nat.le_refl _, rfl, fun _ _ => rfl⟩
theorem abides_alloc {β : Type} {B : Nat} {J : β → World → Prop} (h : AbidesFrom B J) {s : β} {W2 : World} (_ : B ≤ W2.heap.size) (o : Obj) (hs : J s W2) : J s (W2.alloc o) :=
  h s W2 _ none hs (World.grownBy_alloc W2 o none) (fun r e => by cases e)
set_option maxRecDepth 100000 in
set_option maxHeartbeats 2000000 in
theorem gaps1_in (n l Bx : Nat) (a : Frm.Ak) (A : Option Addr) (m c : Nat) (J Jx : List (Int × (Int × Int)) → World → Prop) (hn : 1 ≤ n) (hm : m ≤ 1000) (hok : a.rs.all Frm.okR = true)
    (W : World) (hJ : AbidesFrom W.heap.size J)
    (hY : ∀ pre x W, J pre W → pre.length < m → YieldAt Fence.wide (n - 1) Tryd.prog l (encG x) W fun e W' =>
      (e = .returned (.bool true) ∧ J (pre ++ [x]) W' ∧ Kg Bx A W W') ∨ (e = .returned (.bool false) ∧ Jx (pre ++ [x]) W'))
    (hBx : Blk W Bx 25 #[.int .i64 a.d, .slice A m c, .bool a.mkd, .int .i64 a.e0, .int .i64 a.e1, .int .i64 a.e2]) (hr : Rg W A m c a.rs) (h0 : J [] W) :
    CallsIn Fence.wide n Tryd.prog 57 #[.func (.yield l) #[] #[], .pointer (some ⟨Bx, 0, none⟩)] W fun e W' => (∃ v, e = .returned v) ∧
      ((∃ ys, ys = gpn a.rs m ∧ J ys W') ∨ (∃ pre, (∃ k, k ≤ m ∧ pre = gpn a.rs k) ∧ Jx pre W')) := by
  have c2 := hBx.cell 1
  simp at c2
  refine callsIn_of_wp Tryd.func57 rfl trivial ?_ rfl
  simp only [Tryd.ntmps57, List.size_toArray, List.length_cons, List.length_nil, Nat.reduceAdd, Nat.reduceSub, Array.replicate_succ, Array.replicate_zero, List.push_toArray, List.append_toArray, List.nil_append, List.cons_append]
  gi_wp2
  gi_loopw [9] (fun i wr => ∃ k : Nat, k ≤ m ∧ i = .int .i64 k ∧ J (gpn a.rs k) wr ∧ Kg Bx A W wr) (fun i _ => m - (intOf i).toNat)
  case atStart => exact ⟨0, Nat.zero_le _, rfl, h0, Kg.refl _⟩
  case round =>
    obtain ⟨k, hk, rfl, hJs, hnx⟩ := hrel
    by_cases hlt : k < m
    · have hrw := hnx.rg hr
      have hbw := hnx.blk hBx
      obtain ⟨q, off, rfl, hq, hcs⟩ := hrw.at (by omega)
      have hkl : k < a.rs.length := by rw [hr.1]; exact hlt
      obtain ⟨lo, hi, hx⟩ : ∃ lo hi, a.rs[k] = (lo, hi) := ⟨_, _, rfl⟩
      have hx? : a.rs[k]? = some (lo, hi) := by rw [List.getElem?_eq_getElem hkl, hx]
      obtain ⟨g0, g1⟩ := hcs k (lo, hi) hx?
      simp only at g0 g1
      have hki : (k : Int) < (m : Int) := by omega
      have hwk1 : IntKind.i64.wrap ((k : Int) + 1) = (k : Int) + 1 := IntWalk.i64_in _ (by omega)
      by_cases hk0 : k = 0
      · have hkz : ¬ (0 : Int) < (k : Int) := by omega
        have hgp : gpk a.rs k = (0, (lo, hi)) := by unfold gpk; rw [hx?, if_pos hk0]; rfl
        have hJ2 := abides_alloc hJ (W2 := wr) hnx.1 (.cells #[.int .i64 lo, .int .i64 hi] 36) hJs
        obtain ⟨fn, tmps, assign, body, hy, hR⟩ := hY _ (0, (lo, hi)) _ hJ2 (by rw [gpn_length]; exact hlt)
        dsimp only [encG] at hy
        replace hgp := Lib.hid hgp
        replace hcs := Lib.hid hcs
        replace hr := Lib.hid hr
        replace hbw := Lib.hid hbw
        replace hBx := Lib.hid hBx
        replace hx := Lib.hid hx
        replace hx? := Lib.hid hx?
        replace hJ2 := Lib.hid hJ2
        replace hJs := Lib.hid hJs
        clear hk0 hY hx hx? hJ2 hcs
        gi_wp2
        refine hR.mono ?_
        rintro e W3 (⟨rfl, hJ3, hk3⟩ | ⟨rfl, hJx3⟩)
        · gi_wp2
          go_roundw
          case rel => exact ⟨k + 1, by omega, by simp, by rw [gpn_succ, hgp.out]; exact hJ3, hnx.trans ((kg_alloc hbw.out.lt hq _).trans hk3)⟩
          case measure => simp [intOf]; omega
        · gi_wp2
          refine bodyPost_ret (results_none rfl _ _ _) rfl ?_
          exact ⟨⟨_, rfl⟩, .inr ⟨_, ⟨k + 1, by omega, by rw [gpn_succ, hgp.out]⟩, hJx3⟩⟩
      · obtain ⟨j, rfl⟩ : ∃ j, k = j + 1 := ⟨k - 1, by omega⟩
        have hkz : (0 : Int) < (j : Int) + 1 := by omega
        have hki2 : (j : Int) + 1 < (m : Int) := by omega
        have hjm : j < m := by omega
        have hjm2 : (j : Int) < (m : Int) := by omega
        obtain ⟨lo2, hi2, hx2⟩ : ∃ lo hi, a.rs[j]'(by omega) = (lo, hi) := ⟨_, _, rfl⟩
        have hx2? : a.rs[j]? = some (lo2, hi2) := by rw [List.getElem?_eq_getElem (by omega), hx2]
        obtain ⟨f0, f1⟩ := hcs j (lo2, hi2) hx2?
        simp only at f0 f1
        have o1 := (Frm.okR_iff _).1 (List.all_eq_true.1 hok _ (List.mem_of_getElem? hx?))
        have o2 := (Frm.okR_iff _).1 (List.all_eq_true.1 hok _ (List.mem_of_getElem? hx2?))
        simp only at o1 o2
        have w1 : IntKind.i64.wrap ((j : Int) + 1 - 1) = j := by rw [IntWalk.i64_in _ (by omega)]; omega
        have w2 : IntKind.i64.wrap (lo2 - hi) = lo2 - hi := IntWalk.i64_in _ (by omega)
        have w3 : IntKind.i64.wrap (lo2 - hi - 2) = lo2 - hi - 2 := IntWalk.i64_in _ (by omega)
        have w4 : IntKind.i64.wrap ((j : Int) + 1 + 1) = (j : Int) + 1 + 1 := IntWalk.i64_in _ (by omega)
        have hcast : ((j + 1 : Nat) : Int) = (j : Int) + 1 := by omega
        have hgp : gpk a.rs (j + 1) = (lo2 - hi - 2, (lo, hi)) := by unfold gpk; rw [hx?, if_neg hk0, show j + 1 - 1 = j by omega, hx2?]; rfl
        have hJ2 := abides_alloc hJ (W2 := wr) hnx.1 (.cells #[.int .i64 lo, .int .i64 hi] 36) hJs
        have hYq := fun nq => hY _ (lo2 - hi - 2, (lo, hi)) _ (hJ _ _ _ none hJ2 (grown_drewN _ nq) (fun r e => by cases e)) (by rw [gpn_length]; exact hlt)
        replace hYq := Lib.hid hYq
        replace hgp := Lib.hid hgp
        replace hcs := Lib.hid hcs
        replace hr := Lib.hid hr
        replace hbw := Lib.hid hbw
        replace hBx := Lib.hid hBx
        replace hx := Lib.hid hx
        replace hx? := Lib.hid hx?
        replace hJ2 := Lib.hid hJ2
        replace hJs := Lib.hid hJs
        replace hx2 := Lib.hid hx2
        replace hx2? := Lib.hid hx2?
        rw [hcast] at hwk1 hki ⊢
        clear hk0 hY hx hx? hJ2 hcs o1 o2 hx2 hx2? hok
        gi_wp2
        have hb2 := laterA (Below.refl wr.heap.size wr) (.cells #[.int .i64 lo, .int .i64 hi] 36)
        have y1 := (hbw.out.later hb2).cell 1
        have y2 := (hb2.cell (p := ⟨q, off + j * 2, none⟩) hq).trans f0
        have y3 := (Blk.new wr 36 #[.int .i64 lo, .int .i64 hi]).cell 1
        simp at y1 y3
        clear hb2
        refine wpIn_wide.2 ?_
        go_quiet (fail)
        obtain ⟨fn, tmps, assign, body, hy, hR⟩ := hYq.out nq
        dsimp only [encG] at hy
        gi_wp2
        refine hR.mono ?_
        rintro e W3 (⟨rfl, hJ3, hk3⟩ | ⟨rfl, hJx3⟩)
        · gi_wp2
          go_roundw
          case rel => exact ⟨j + 1 + 1, by omega, by simp, by rw [gpn_succ a.rs (j + 1), hgp.out]; exact hJ3, hnx.trans ((kg_alloc hbw.out.lt hq _).trans ((kg_drewN _ _).trans hk3))⟩
          case measure => simp [intOf]; omega
        · gi_wp2
          refine bodyPost_ret (results_none rfl _ _ _) rfl ?_
          exact ⟨⟨_, rfl⟩, .inr ⟨_, ⟨j + 1 + 1, by omega, by rw [gpn_succ a.rs (j + 1), hgp.out]⟩, hJx3⟩⟩
    · obtain rfl : k = m := by omega
      gi_wp2
      go_end0
      exact ⟨⟨_, rfl⟩, .inl ⟨_, rfl, hJs⟩⟩
/-- gaps(a): the function that ranges, over a block of its own. -/
theorem gaps_any (a : Frm.Ak) (A : Option Addr) (m c : Nat) (w : World) :
    Calls Tryd.prog 37 #[av a A m c] w fun e w' => e = .returned (.func (.func 57) #[] #[.pointer (some ⟨w.heap.size, 0, none⟩)]) ∧ w' = w.alloc (.cells #[.int .i64 a.d, .slice A m c, .bool a.mkd, .int .i64 a.e0, .int .i64 a.e1, .int .i64 a.e2] 25) := by
  unfold av
  go_enter Tryd.func37, Tryd.ntmps37
  go_wp2
  go_ret
  exact ⟨rfl, rfl⟩
theorem gaps_stops (n Bx : Nat) (a : Frm.Ak) (A : Option Addr) (m c : Nat) (w : World) (hn : 1 ≤ n) (hm : m ≤ 1000) (hok : a.rs.all Frm.okR = true)
    (hBx : Blk w Bx 25 #[.int .i64 a.d, .slice A m c, .bool a.mkd, .int .i64 a.e0, .int .i64 a.e1, .int .i64 a.e2]) (hr : Rg w A m c a.rs) :
    SeqStopsK Fence.wide n Tryd.prog 57 #[.pointer (some ⟨Bx, 0, none⟩)] encG (Kg Bx A) (fun ys => ys = gpn a.rs m) (fun pre => ∃ k, k ≤ m ∧ pre = gpn a.rs k) m w := fun l J Jx W hW hJ _ hY h0 =>
  gaps1_in n l Bx a A m c J Jx hn hm hok W hJ hY (hBx.later hW) (hr.later hW) h0
end Go.Proofs.YtpagdcobhbkabaaDoor
