/-
  Layer 2: OctetKnown: readers that are none.
-/
import Derived.Test.YtpmfaocegkjhmaaDoorOctP
namespace Go.Proofs.YtpmfaocegkjhmaaDoor
open Go.RowKit Go.Sort Go.Shelf Go.Deep Go.WideShapes

/-- No reader: nil, or one that nobody made. -/
def NoR (w : World) (v : Value) : Prop := v = .pointer none ∨ ∃ p, v = .pointer (some ⟨p, 0, none⟩) ∧ Blk w p 57 #[.slice none 0 0, .bool false, .int .i64 0]
theorem NoR.later {w w' : World} {v : Value} (h : NoR w v) (hb : Below w.heap.size w w') : NoR w' v := by
  rcases h with rfl | ⟨p, rfl, h⟩
  · exact .inl rfl
  · exact .inr ⟨p, rfl, h.later hb⟩
theorem nnone_any (v : Value) (w : World) (h : NoR w v) : Calls Tryd.prog 42 #[v] w fun e w' => e = .returned (.bool true) ∧ w = w' := by
  rcases h with rfl | ⟨p, rfl, h⟩
  · exact none_nil w
  · exact none_any p _ _ false w h
theorem nerr_any (v : Value) (w : World) (h : NoR w v) : Calls Tryd.prog 25 #[v] w fun e w' => e = .returned (.int .i64 1) ∧ w = w' := by
  have hn := nnone_any v w h
  clear h
  go_enter Tryd.func25, Tryd.ntmps25
  go_wp2_with fail
  refine hn.mono ?_
  rintro e w1 ⟨rfl, rfl⟩
  go_wp2
  go_ret
  exact ⟨rfl, rfl⟩
theorem nleft_any (v : Value) (w : World) (h : NoR w v) : Calls Tryd.prog 27 #[v] w fun e w' => e = .returned (.int .i64 0) ∧ w = w' := by
  have hn := nnone_any v w h
  clear h
  go_enter Tryd.func27, Tryd.ntmps27
  go_wp2_with fail
  refine hn.mono ?_
  rintro e w1 ⟨rfl, rfl⟩
  go_wp2
  go_ret
  exact ⟨rfl, rfl⟩
theorem nend_any (v : Value) (w : World) (h : NoR w v) : Calls Tryd.prog 26 #[v] w fun e w' => e = .returned (.int .i64 1) ∧ w = w' := by
  have he := nerr_any v w h
  clear h
  go_enter Tryd.func26, Tryd.ntmps26
  go_wp2_with fail
  refine he.mono ?_
  rintro e w1 ⟨rfl, rfl⟩
  go_wp2
  go_ret
  exact ⟨rfl, rfl⟩
theorem ntake_any (v : Value) (w : World) (h : NoR w v) : Calls Tryd.prog 31 #[v, .int .i64 0] w fun e w' => e = .returned (.slice none 0 0) ∧ w = w' := by
  have hn := nnone_any v w h
  clear h
  go_enter Tryd.func31, Tryd.ntmps31
  go_wp2_with fail
  refine hn.mono ?_
  rintro e w1 ⟨rfl, rfl⟩
  go_wp2
  go_ret
  exact ⟨rfl, rfl⟩
theorem nnum_any (v : Value) (w : World) (h : NoR w v) : Calls Tryd.prog 24 #[v] w fun e w' => e = .returned (.int .i64 0) ∧ w = w' := by
  have hn := nnone_any v w h
  clear h
  go_enter Tryd.func24, Tryd.ntmps24
  go_wp2
  refine scope_two (fun _ _ => False) (fun _ _ => False) (fun _ _ => 0) rfl rfl ?_ ?_ ?_
  · go_wp2_with fail
    refine hn.mono ?_
    rintro e w1 ⟨rfl, rfl⟩
    go_wp2_with fail
    rw [jump2_ret]
    go_ret
    exact ⟨rfl, rfl⟩
  · intro a w h
    exact h.elim
  · intro a w h
    exact h.elim

/-! ### Written-out integers -/
def ints (l : List Int) : Array Value := (l.map (Value.int .i64)).toArray
theorem rd_new {w : World} {g : Nat} {t : TypeId} (l : List Int) (h : Blk w g t (ints l)) : Rd w (some ⟨g, 0, none⟩) 1 l.length (fun k _ => l.getD k 0) := fun _ =>
  ⟨g, 0, rfl, h.lt, fun k hk j hj => by
    have hj0 : j = 0 := by omega
    subst hj0
    rw [h.cell, show 0 + (k * 1 + 0) = k by omega]
    simp [ints, hk]⟩
theorem reads2_any (A : Option Addr) (n c : Nat) (l m : List Int) (k : Nat) (ds : Array Value) (w : World) (hL : Lim w) (h : Rb w A n c l) (hl : Oct.Bys l) (hd : ds = ints m) (hk : m.length = k) (hk2 : k ≤ 100) :
    Calls Tryd.prog 7 #[.slice A n c, .slice (some ⟨w.heap.size, 0, none⟩) k k] (w.alloc (.cells ds 3)) fun e w' => e = .returned (.bool true) ∧ Below w.heap.size w w' := by
  subst hd
  subst hk
  exact (reads_any A n c l _ m.length m.length _ _ (hL.alloc _) (h.later (laterA (Below.refl _ _) _)) hl (by omega) (rd_new m (Blk.new w _ _))).mono fun _ _ ⟨h, hb⟩ => ⟨h, later (laterA (Below.refl _ _) _) hb⟩
theorem reads3_any (l m : List Int) (k j : Nat) (cs ds : Array Value) (w : World) (hL : Lim w) (hl : Oct.Bys l) (hc : cs.toList = u8 l) (hj : l.length = j) (hj2 : j ≤ 100) (hd : ds = ints m) (hk : m.length = k) (hk2 : k ≤ 100) :
    Calls Tryd.prog 7 #[.slice (some ⟨w.heap.size, 0, none⟩) j j, .slice (some ⟨w.heap.size + 1, 0, none⟩) k k] ((w.alloc (.cells cs 5)).alloc (.cells ds 3)) fun e w' => e = .returned (.bool true) ∧ Below w.heap.size w w' := by
  have h := reads2_any _ j j l m k ds (w.alloc (.cells cs 5)) (hL.alloc _) (sl_new w l cs j hj hc (by unfold maxLen; omega)).rb hl hd hk hk2
  have e : (w.alloc (.cells cs 5)).heap.size = w.heap.size + 1 := by simp
  rw [e] at h
  exact h.mono fun _ _ ⟨h, hb⟩ => ⟨h, later (laterA (Below.refl _ _) _) (by rw [e]; exact hb)⟩
theorem writes_new (l : List Int) (x s : Int) (cs : Array Value) (k : Nat) (w : World) (hL : Lim w) (hl : Oct.Bys l) (hc : cs.toList = u8 l) (hk : l.length = k) (hk2 : k ≤ 100) :
    Calls Tryd.prog 3 #[.slice (some ⟨w.heap.size, 0, none⟩) k k, .int .i64 x, .int .i64 s] (w.alloc (.cells cs 5)) fun e w' => e = .returned (.bool true) ∧ Below w.heap.size w w' :=
  (writes_any _ k k l x s _ (hL.alloc _) (sl_new w l cs k hk hc (by unfold maxLen; omega)).rb hl).mono fun _ _ ⟨h, hb⟩ => ⟨h, later (laterA (Below.refl _ _) _) hb⟩

def ends17 : List Int := [-9223372036854775808, -1, 0, 1, 62, 63, 64, 65, 16382, 16383, 16384, 1073741823, 1073741824, 9007199254740991, 9007199254740992, 4611686018427387903, 9223372036854775807]
theorem ends17_at {w : World} {g : Nat} {t : TypeId} (h : Blk w g t (ints ends17)) {k : Nat} (hk : k < 17) : ∃ x, w.cell? ⟨g, k, none⟩ = some (.int .i64 x) := by
  refine ⟨ends17[k]'(by simp [ends17]; omega), ?_⟩
  rw [h.cell]
  simp only [ints, List.getElem?_toArray, List.getElem?_map]
  rw [List.getElem?_eq_getElem (by simp [ends17]; omega)]
  rfl
end Go.Proofs.YtpmfaocegkjhmaaDoor
